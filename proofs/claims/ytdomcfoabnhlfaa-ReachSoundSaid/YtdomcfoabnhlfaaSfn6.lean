/-
  The framework by which the law is proved: FuB, FuC, FuD, FuE, FuF, FuG, FuH, FuI, FuJ, FuK, FuL.
-/
import Derived.Test.YtdomcfoabnhlfaaSfn5
set_option linter.all false
section
set_option linter.unusedVariables false
namespace Go.Fn
open Go Go.Fw

variable {F n : Nat} {h : H} {Q : Post} {K : V → St}

theorem codeP_of {P : Pg} {q : Pt} {fn : Fun} {bl : Blo} (hf : getI P.funcs q.f = some fn) (hb : getI fn.blocks q.b = some bl) : codeP P q = getI bl.code q.i := by
  unfold codeP
  rw [hf]
  show (getI fn.blocks q.b).bind _ = _
  rw [hb]; rfl

theorem irat_wp {n0 : Nat} {P : Pg} {bp : Nat} {vr vs vi vm vf : V} (p : Prg h n0 P bp vr vs vi vm vf) (lm : Lm P) {a : Nat} {q : Pt} (hq : (pointsP P)[a]? = some q) (hF : 1000 < F) (f : Fr n h) (hn : n0 ≤ n)
    (k : ∀ n' h' v, Ev No n h n' h' → CodV h' n0 P q v → Q v n' h') : Wp (ir_At F (pt bp 0) (i64 (a : Int))) n h Q := by
  unfold ir_At
  obtain ⟨kf, kb, ki, fn, bl, rfl, hf2, hb2, hi⟩ := (PtOk.of hq).nat
  have hc : codeP P ⟨kf, kb, ki⟩ = bl.code[ki]? := by rw [codeP_of (q := ⟨kf, kb, ki⟩) (by rw [getI_nat]; exact hf2) (by rw [getI_nat]; exact hb2), getI_nat]
  refine (Wp.ptrI f).2 ⟨by simp [oneS], ?_⟩
  have e0 := (Ev.start f).new ⟨[i64 0, i64 0, i64 0, i64 0, i64 0, nsl], .own⟩
  have g0 : (h.set n ⟨[i64 0, i64 0, i64 0, i64 0, i64 0, nsl], .own⟩).get n = some ⟨[i64 0, i64 0, i64 0, i64 0, i64 0, nsl], .own⟩ := H.get_set_same _ _ _
  generalize h.set n ⟨[i64 0, i64 0, i64 0, i64 0, i64 0, nsl], .own⟩ = h0 at e0 g0
  have p0 := p.keep (Kp.ev e0 hn)
  refine cl_point p0 lm hq hF e0.f (by omega) fun n1 h1 e1 => ?_
  have le1 := e1.le
  simp only [Wp.extractI, List.getElem?_cons_zero, List.getElem?_cons_succ, Option.some.injEq, exists_eq_left']
  refine ⟨by simp [isNF], by simp [isNF], Wp.put (cs := [i64 (kf : Int), i64 (kb : Int), i64 (ki : Int)]) e1.f (by simp [oneS]) (by simp [oneS]) rfl rfl ?_⟩
  have e2 := ((Ev.more e0 e1).new ⟨[i64 0, i64 0, i64 0], .own⟩).set (b := n1) ⟨[i64 (kf : Int), i64 (kb : Int), i64 (ki : Int)], .own⟩ (by omega) (by omega)
  have g2 : ((h1.set n1 ⟨[i64 0, i64 0, i64 0], .own⟩).set n1 ⟨[i64 (kf : Int), i64 (kb : Int), i64 (ki : Int)], .own⟩).get n1 = some ⟨[i64 (kf : Int), i64 (kb : Int), i64 (ki : Int)], .own⟩ := H.get_set_same _ _ _
  have g20 : ((h1.set n1 ⟨[i64 0, i64 0, i64 0], .own⟩).set n1 ⟨[i64 (kf : Int), i64 (kb : Int), i64 (ki : Int)], .own⟩).get n = some ⟨[i64 0, i64 0, i64 0, i64 0, i64 0, nsl], .own⟩ := by rw [H.get_set_ne _ _ (by omega), H.get_set_ne _ _ (by omega), e1.no (by omega), g0]
  generalize (h1.set n1 ⟨[i64 0, i64 0, i64 0], .own⟩).set n1 ⟨[i64 (kf : Int), i64 (kb : Int), i64 (ki : Int)], .own⟩ = h2 at e2 g2 g20
  have p2 := p.keep (Kp.ev e2 hn)
  refine (Wp.eq st_not).2 (Wp.bool.2 ⟨fun h => absurd h (by decide), fun _ => ?_⟩)
  rw [ld3W g2 (by decide) (by rfl) (by rfl) (by rfl)]
  refine cl_block p2 (q := ⟨kf, kb, ki⟩) (by rw [getI_nat]; exact hf2) (by rw [getI_nat]; exact hb2) (by dsimp only; omega) e2.f (by omega) fun n3 h3 b o e3 hblk => ?_
  have le3 := e3.le
  have e23 := Ev.more e2 e3
  have g3 : h3.get n1 = some ⟨[i64 (kf : Int), i64 (kb : Int), i64 (ki : Int)], .own⟩ := by rw [e3.no (by omega), g2]
  have g30 : h3.get n = some ⟨[i64 0, i64 0, i64 0, i64 0, i64 0, nsl], .own⟩ := by rw [e3.no (by omega), g20]
  obtain ⟨cs, kd, vc, hb, hk, lt, sc, c0, _⟩ := hblk
  simp only [wpS.1, wpS.2.1, wpS.2.2.1, wpS.2.2.2.2, wpM.1, g3, ldv_own, Nat.zero_add, Nat.add_zero, List.getElem?_cons_succ, List.getElem?_cons_zero, Option.some.injEq, exists_eq_left', hb, ldv_live hk, c0, sc.len, decide_eq_true_eq, decide_eq_false_iff_not]
  refine ⟨fun heq => ?_, fun hne => ?_⟩
  · have hn' : codeP P ⟨kf, kb, ki⟩ = none := by rw [hc, List.getElem?_eq_none (by omega)]
    refine Wp.buildI.2 ⟨[i64 0, i64 0, i64 0, i64 0, i64 0, nsl], rfl, ?_⟩
    rw [stNW (s := 6) (vs := [i64 0, i64 0, i64 0, i64 0, i64 0, nsl]) g30 (.inl rfl) rfl (by simp) (by simp [oneS])]
    refine Wp.loadNI.2 ?_
    rw [H.get_set_same]
    refine ⟨by simp [over], ?_⟩
    simp only [wpS]
    refine ⟨rfl, rfl, ?_⟩
    exact k _ _ _ (e23.set _ (by omega) (by omega)) (.inl ⟨hn', rfl⟩)
  · obtain ⟨x, hx, _⟩ := Sl.get (show ki < bl.code.length by omega)
    obtain ⟨b4, o4, cs4, kd4, es, hix4, hb4, hk4, ⟨va, rfl, sa, fit⟩, hcs4, lt4, hl4, hd4⟩ := sc.at hx
    rw [hix4]
    refine Wp.loadNI.2 ?_
    rw [hb4]
    refine (ldn_live hk4).2 ⟨hl4, ?_⟩
    rw [hd4, stNW (s := 6) (vs := [i64 x.op, i64 x.dst, i64 x.a, i64 x.b, i64 x.n, va]) g30 (.inl rfl) rfl (by simp) (by simp [oneS, sa.one])]
    refine Wp.loadNI.2 ?_
    rw [H.get_set_same]
    refine ⟨by simp [over], ?_⟩
    simp only [wpS]
    refine ⟨rfl, rfl, ?_⟩
    have e4 := e23.set (b := n) ⟨over [i64 0, i64 0, i64 0, i64 0, i64 0, nsl] 0 [i64 x.op, i64 x.dst, i64 x.a, i64 x.b, i64 x.n, va], .own⟩ (by omega) (by omega)
    exact k _ _ _ e4 (.inr ⟨x, va, by rw [hc, hx], sa.keep (fun b hb => by rw [H.get_set_ne _ _ (by omega)]) fun _ _ h => h, fit, rfl⟩)

/-- The end at a number, or none. -/
theorem irend_wp {n0 : Nat} {P : Pg} {bp : Nat} {vr vs vi vm vf : V} (p : Prg h n0 P bp vr vs vi vm vf) (lm : Lm P) {a : Nat} {q : Pt} {fn : Fun} {bl : Blo} (hq : (pointsP P)[a]? = some q) (hf : getI P.funcs q.f = some fn) (hb : getI fn.blocks q.b = some bl) (hF : 1000 < F) (f : Fr n h) (hn : n0 ≤ n)
    (k1 : q.i < bl.code.length → ∀ n' h', Ev No n h n' h' → Q (.pointer none) n' h') (k2 : q.i = bl.code.length → ∀ n' h' b o, Ev No n h n' h' → BlkAt h' n0 b o bl → Q (pt b o) n' h') : Wp (ir_End F (pt bp 0) (i64 (a : Int))) n h Q := by
  unfold ir_End
  obtain ⟨fn', bl', hf', hb', hi0, hi1⟩ := PtOk.of hq
  rw [hf] at hf'; cases hf'
  rw [hb] at hb'; cases hb'
  refine cl_point p lm hq hF f hn fun n1 h1 e1 => ?_
  have le1 := e1.le
  simp only [Wp.extractI, List.getElem?_cons_zero, List.getElem?_cons_succ, Option.some.injEq, exists_eq_left']
  refine ⟨by simp [isNF], by simp [isNF], Wp.put (cs := [i64 q.f, i64 q.b, i64 q.i]) e1.f (by simp [oneS]) (by simp [oneS]) rfl rfl ?_⟩
  have e2 := (e1.new ⟨[i64 0, i64 0, i64 0], .own⟩).set (b := n1) ⟨[i64 q.f, i64 q.b, i64 q.i], .own⟩ (by omega) (by omega)
  have g2 : ((h1.set n1 ⟨[i64 0, i64 0, i64 0], .own⟩).set n1 ⟨[i64 q.f, i64 q.b, i64 q.i], .own⟩).get n1 = some ⟨[i64 q.f, i64 q.b, i64 q.i], .own⟩ := H.get_set_same _ _ _
  generalize (h1.set n1 ⟨[i64 0, i64 0, i64 0], .own⟩).set n1 ⟨[i64 q.f, i64 q.b, i64 q.i], .own⟩ = h2 at e2 g2
  have p2 := p.keep (Kp.ev e2 hn)
  refine (Wp.eq st_not).2 (Wp.bool.2 ⟨fun h => absurd h (by decide), fun _ => ?_⟩)
  rw [ld3W g2 (by decide) (by rfl) (by rfl) (by rfl)]
  refine cl_block p2 (q := q) hf hb ⟨hi0, hi1⟩ e2.f (by omega) fun n3 h3 b o e3 hblk => ?_
  have hblk0 := hblk
  have g3 : h3.get n1 = some ⟨[i64 q.f, i64 q.b, i64 q.i], .own⟩ := by rw [e3.no (by omega), g2]
  obtain ⟨cs, kd, vc, hb, hk, lt, sc, c0, _⟩ := hblk
  simp only [wpS.1, wpS.2.1, wpS.2.2.1, wpS.2.2.2.2, wpM.1, g3, ldv_own, Nat.zero_add, Nat.add_zero, List.getElem?_cons_succ, List.getElem?_cons_zero, Option.some.injEq, exists_eq_left', hb, ldv_live hk, c0, sc.len, decide_eq_true_eq, decide_eq_false_iff_not]
  exact ⟨fun hlt => k1 hlt _ _ (Ev.more e2 e3), fun hge => k2 (by omega) _ _ b o (Ev.more e2 e3) hblk0⟩

theorem irdef_wp {x : Ins} {v : V} (hv : one v = true) (f : Fr n h) (q : ∀ n' h', Ev No n h n' h' → Q (optV (defP x)) n' h') : Wp (ir_Def F (insV x v)) n h Q := by
  unfold ir_Def
  have := q _ _ ((Ev.start f).new ⟨[i64 x.op, i64 x.dst, i64 x.a, i64 x.b, i64 x.n, v], .own⟩)
  obtain ⟨op, dst, a, b, m, args⟩ := x
  simp [wpS, wpM, Wp.boxNI, f, hv, H.get_set, ldv, oneS]
  unfold defP at this
  by_cases h1 : op < 1
  · simp_all [optV]; omega
  by_cases h2 : 15 < op
  · simp_all [optV]; omega
  by_cases h3 : op = 8
  · simp_all [optV]
  by_cases h4 : op = 9
  · simp_all [optV]
  by_cases h5 : op = 15
  · simp_all [optV]
  simp_all [optV]
  try omega

theorem irouts_wp {n0 b o : Nat} {bl : Blo} (hb : BlkAt h n0 b o bl) (f : Fr n h) (q : ∀ n' h' v, Ev No n h n' h' → Sl h' (fun b => n ≤ b ∧ b < n') 1 I1 v (outsP bl) → Q v n' h') : Wp (ir_Outs F (pt b o)) n h Q := by
  unfold ir_Outs
  obtain ⟨cs, kd, vc, hb, hk, lt, sc, c0, c1, c2, c3, c4⟩ := hb
  have q1 : outsP bl = [bl.to] → Q (sl n 0 1 1) (n + 1) (h.set n ⟨[i64 bl.to], .own⟩) := fun hu => by
    have := q _ _ (sl n 0 1 1) ((Ev.start f).new ⟨[i64 bl.to], .own⟩)
    rw [hu] at this
    exact this (Sl.ofI (xs := [bl.to]) (H.get_set_same _ _ _) (by decide) (by simp) ⟨by omega, by omega⟩)
  have q2 : outsP bl = [bl.to, bl.els] → Q (sl n 0 2 2) (n + 1) (h.set n ⟨[i64 bl.to, i64 bl.els], .own⟩) := fun hu => by
    have := q _ _ (sl n 0 2 2) ((Ev.start f).new ⟨[i64 bl.to, i64 bl.els], .own⟩)
    rw [hu] at this
    exact this (Sl.ofI (xs := [bl.to, bl.els]) (H.get_set_same _ _ _) (by decide) (by simp) ⟨by omega, by omega⟩)
  have q0 : outsP bl = [] → Q nsl n h := fun hu => by
    have := q _ _ nsl (Ev.start f)
    rw [hu] at this
    exact this ⟨by simp, .inl ⟨rfl, rfl⟩⟩
  by_cases h1 : bl.fin = 1
  · have := q1 (by simp [outsP, h1])
    simpa [wpS, wpM.1, hb, ldv_live hk, c1, c3, h1, Wp.buildSliceI, f, fillA, rep, over, oneS] using this
  by_cases h2 : bl.fin = 2
  · by_cases h3 : bl.to = bl.els
    · have := q1 (by simp [outsP, h2, h3])
      simpa [wpS, wpM.1, hb, ldv_live hk, c1, c3, c4, h2, h3, Wp.buildSliceI, f, fillA, rep, over, oneS] using this
    · have := q2 (by
        unfold outsP; rw [if_neg h1, if_pos h2, if_pos (fun q => h3 q.symm)])
      simpa [wpS, wpM.1, hb, ldv_live hk, c1, c3, c4, h2, h3, Wp.buildSliceI, f, fillA, rep, over, oneS] using this
  · have := q0 (by simp [outsP, h1, h2])
    simpa [wpS, wpM.1, hb, ldv_live hk, c1, h1, h2] using this

/-- The numbers behind a point. -/
def succP (P : Pg) (q : Pt) : List Int := (nextP P q).map (numP P)
theorem irnext_wp {n0 : Nat} {P : Pg} {bp : Nat} {vr vs vi vm vf : V} (p : Prg h n0 P bp vr vs vi vm vf) (lm : Lm P) (nm : Nm P) {a : Nat} {q : Pt} (hq : (pointsP P)[a]? = some q) (hF : 1000 < F) (f : Fr n h) (hn : n0 ≤ n)
    (k : ∀ n' h' v, Ev No n h n' h' → Sl h' (fun b => n ≤ b ∧ b < n') 1 I1 v (succP P q) → Q v n' h') : Wp (ir_Next F (pt bp 0) (i64 (a : Int))) n h Q := by
  unfold ir_Next
  have okq := PtOk.of hq
  have lp := lm.points
  have hal := (List.getElem?_eq_some_iff.1 hq).1
  obtain ⟨fn, bl, hf, hb, hi0, hi1⟩ := okq
  have eok := ((nm.funcs fn (getI_mem hf)).code bl (getI_mem hb)).2
  refine cl_point p lm hq hF f hn fun n1 h1 e1 => ?_
  have le1 := e1.le
  simp only [Wp.extractI, List.getElem?_cons_zero, List.getElem?_cons_succ, Option.some.injEq, exists_eq_left']
  refine ⟨by simp [isNF], by simp [isNF], Wp.put (cs := [i64 q.f, i64 q.b, i64 q.i]) e1.f (by simp [oneS]) (by simp [oneS]) rfl rfl ?_⟩
  have e2 := (e1.new ⟨[i64 0, i64 0, i64 0], .own⟩).set (b := n1) ⟨[i64 q.f, i64 q.b, i64 q.i], .own⟩ (by omega) (by omega)
  have g2 : ((h1.set n1 ⟨[i64 0, i64 0, i64 0], .own⟩).set n1 ⟨[i64 q.f, i64 q.b, i64 q.i], .own⟩).get n1 = some ⟨[i64 q.f, i64 q.b, i64 q.i], .own⟩ := H.get_set_same _ _ _
  generalize (h1.set n1 ⟨[i64 0, i64 0, i64 0], .own⟩).set n1 ⟨[i64 q.f, i64 q.b, i64 q.i], .own⟩ = h2 at e2 g2
  have p2 := p.keep (Kp.ev e2 hn)
  refine (Wp.eq st_not).2 (Wp.bool.2 ⟨fun h => absurd h (by decide), fun _ => ?_⟩)
  refine Wp.cl' (irend_wp p2 lm hq hf hb hF e2.f (by omega) (fun hlt n3 h3 e3 => ?_) fun heq n3 h3 b o e3 hblk => ?_)
  · have hin : nextP P q = [{ q with i := q.i + 1 }] := by
      unfold nextP
      rw [hf]; dsimp only
      rw [hb]; dsimp only
      rw [if_neg (by omega), if_pos hlt]
    have hnum : succP P q = [(a : Int) + 1] := by
      unfold succP
      rw [hin]
      obtain ⟨kf, kb, ki, fn', bl', rfl, w1, w2, w3⟩ := (PtOk.of hq).nat
      rw [getI_nat, w1] at hf; cases hf
      rw [getI_nat, w2] at hb; cases hb
      obtain ⟨j, jb, i, fn2, bl2, r1, r2, r3, r4, r5⟩ := points_at.1 hq
      simp only [Pt.mk.injEq, Int.natCast_inj] at r1
      obtain ⟨rfl, rfl, rfl⟩ := r1
      rw [w1] at r2; cases r2
      have hlt' : ki < bl.code.length := by dsimp only at hlt; omega
      have := numP_eq (points_at.2 ⟨kf, kb, ki + 1, fn, bl, rfl, w1, w2, by omega, rfl⟩)
      simp only [List.map_cons, List.map_nil, List.cons.injEq, and_true]
      rw [show (⟨(kf : Int), (kb : Int), (ki : Int) + 1⟩ : Pt) = ⟨(kf : Int), (kb : Int), ((ki + 1 : Nat) : Int)⟩ by simp, this]
      omega
    simp only [wpS, Bool.xor_true, Bool.not_false, true_implies, Bool.not_eq_true, reduceCtorEq, false_implies, and_true, Bool.true_eq_false]
    rw [wrap_succ (show a < 9223372036854775807 by omega)]
    have e3' := Ev.more e2 e3
    refine (Wp.buildSliceI e3.f).2 ⟨[i64 ((a + 1 : Nat) : Int)], by simp [fillA, rep, over, oneS], by simp [oneS], ?_⟩
    refine Wp.retI.2 (k _ _ _ (e3'.new _) ?_)
    rw [hnum]
    have le3 := e3.le
    exact Sl.ofI (kd := .own) (xs := [(a : Int) + 1]) (b := n3) (cap := 1) (by rw [H.get_set_same]; simp) (by decide) (by simp) ⟨by omega, by omega⟩
  · have e3' := Ev.more e2 e3
    have le3 := e3.le
    have p3 := p.keep (Kp.ev e3' hn)
    have g3 : h3.get n1 = some ⟨[i64 q.f, i64 q.b, i64 q.i], .own⟩ := by rw [e3.no (by omega), g2]
    simp only [wpS.1, wpS.2.1, wpS.2.2.1, wpS.2.2.2.2]
    refine ⟨fun h => absurd h (by simp), fun _ => ?_⟩
    have hnx : nextP P q = (outsP bl).map fun t => ⟨q.f, t, 0⟩ := by
      unfold nextP
      rw [hf]; dsimp only
      rw [hb]; dsimp only
      rw [if_neg (by omega), if_neg (by omega)]
      congr 1
      rw [List.filter_eq_self]
      intro t ht
      simpa using outs_in eok ht
    have hsucc : succP P q = (outsP bl).map fun t => numP P ⟨q.f, t, 0⟩ := by unfold succP; rw [hnx, List.map_map]; rfl
    have lo := outsP_len bl
    refine Wp.jn (fun j => ∀ n' h' v, Ev No n h n' h' → Gs h' n 1 I1 v (succP P q) → Wp (j v) n' h' Q) (fun n' h' v e g => Wp.retI.2 (k _ _ _ e ((g.sl (by rw [hsucc]; simp; omega)).keep (fun b hb => g.lt e.f hb) (fun _ _ => rfl) fun _ _ h => h))) fun j hj => ?_
    refine Wp.cl' (irouts_wp hblk e3.f fun n4 h4 v4 e4 s4 => ?_)
    have le4 := e4.le
    have e34 := Ev.more e3' e4
    simp only [s4.len]
    refine Wp.loop6 (fun d x0 x1 x2 x3 x4 x5 n' h' => Ev No n h n' h' ∧ Ev No n4 h4 n' h' ∧ x0 = pt bp 0 ∧ x1 = pt n1 0 ∧ x3 = v4 ∧ x4 = i64 ((outsP bl).length : Int) ∧ ∃ (i : Nat), x5 = i64 (i : Int) ∧ i + d = (outsP bl).length ∧ h'.get n1 = some ⟨[i64 q.f, i64 q.b, i64 q.i], .own⟩ ∧ ¬ InB x2 n1 ∧ Gs h' n4 1 I1 x2 (((outsP bl).take i).map fun t => numP P ⟨q.f, t, 0⟩)) ?_ (d := (outsP bl).length) ⟨e34, Ev.start e4.f, rfl, rfl, rfl, rfl, 0, rfl, by omega, by rw [e4.no (by omega), g3], (fun ⟨_, _, _, q⟩ => by cases q), Gs.nil⟩ (by omega)
    rintro d _ _ w v4 _ _ n5 h5 rec ⟨e5, e45, rfl, rfl, rfl, rfl, i, rfl, hid, g5, hw, gl⟩ hr
    have wi := wrap_succ (show i < 9223372036854775807 by omega)
    have le5 := e45.le
    have p5 := p.keep (Kp.ev e5 hn)
    have s5 := s4.ev e45 (Nat.le_refl _)
    simp only [wpS.1, wpS.2.1, wpS.2.2.1, wpS.2.2.2.2, decide_eq_true_eq, decide_eq_false_iff_not]
    refine ⟨fun hlt => ?_, fun hge => ?_⟩
    case refine_2 =>
      rw [List.take_of_length_le (by omega), ← hsucc] at gl
      refine hj _ _ _ e5 ?_
      rcases gl with gl | ⟨b, cs, q1, q2, q3, q4⟩
      · exact .inl gl
      · exact .inr ⟨b, cs, q1, q2, by omega, q4⟩
    obtain ⟨t, ht, _⟩ := Sl.get (show i < (outsP bl).length by omega)
    obtain ⟨b6, o6, cs6, kd6, _, hix6, hb6, hk6, rfl, hcs6, _⟩ := s5.at ht
    have c6 : cs6[o6]? = _ := hcs6 0 _ rfl
    have htr := outs_in eok (List.mem_of_getElem? ht)
    have hokt : PtOk P ⟨q.f, t, 0⟩ := (nextP_ok (q := q) (by rw [hnx]; exact List.mem_map.2 ⟨t, List.mem_of_getElem? ht, rfl⟩)).2.1
    refine Wp.jn (fun j' => ∀ n' h' w', Ev No n h n' h' → Ev No n4 h4 n' h' → h'.get n1 = some ⟨[i64 q.f, i64 q.b, i64 q.i], .own⟩ → ¬ InB w' n1 → Gs h' n4 1 I1 w' (((outsP bl).take (i + 1)).map fun t => numP P ⟨q.f, t, 0⟩) → Wp (j' (pt bp 0) (pt n1 0) w' v4 (i64 ((outsP bl).length : Int)) (i64 (i : Int))) n' h' Q) ?_ fun j22 hj22 => ?_
    case refine_1 =>
      intro n' h' w' e' e4' g' hw' gl'
      simp only [wpS, wi]
      exact hr (d - 1) _ _ _ _ _ _ _ _ (by omega) ⟨e', e4', rfl, rfl, rfl, rfl, i + 1, rfl, by omega, g', hw', gl'⟩
    simp only [hix6, wpS.1, wpS.2.1, wpS.2.2.1, wpS.2.2.2.2, wpM.1, hb6, ldv_live hk6, c6, g5, ldv_own, Nat.zero_add, List.getElem?_cons_succ, List.getElem?_cons_zero, Option.some.injEq, exists_eq_left']
    refine Wp.buildI.2 ⟨[i64 q.f, i64 t, i64 0], by simp [fillA, oneS], ?_⟩
    refine cl_irnumber p5 lm (q := ⟨q.f, t, 0⟩) hokt hF e5.f (by omega) fun n7 h7 e7 => ?_
    have le7 := e7.le
    obtain ⟨at_, _, hnt⟩ := hokt.num
    have g7 : h7.get n1 = some ⟨[i64 q.f, i64 q.b, i64 q.i], .own⟩ := by rw [e7.no (by omega), g5]
    have gl7 := gl.keep (h' := h7) (fun c hc => e7.no (gl.lt e45.f hc).2) fun _ _ h => h
    simp only [wpS.2.2.2.2, decide_eq_true_eq, decide_eq_false_iff_not]
    refine ⟨fun _ => ?_, fun h => absurd (show (0 : Int) ≤ numP P ⟨q.f, t, 0⟩ by rw [hnt]; omega) h⟩
    refine Gs.push (s := 1) (x := numP P ⟨q.f, t, 0⟩) (E := I1) (es := [i64 (numP P ⟨q.f, t, 0⟩)]) (Ev.more e45 e7) gl7 (by simp [fillA, rep, over, oneS]) rfl (by decide) (by simp [oneS]) rfl ⟨by simp; omega, by decide⟩ fun h8 v8 e8 g8 _ same new => ?_
    refine hj22 _ _ _ (Ev.more e34 e8) e8 (by rw [same n1 (by omega) hw, g7]) (fun q => by have := new _ q; omega) ?_
    rw [List.take_add_one, ht]
    simpa using g8
end Go.Fn
end
section
set_option linter.unusedVariables false
namespace Go.Fn
open Go Go.Fw

variable {F n : Nat} {h : H} {Q : Post} {K : V → St}

theorem Gs.ints {lo : Nat} {b o l c : Nat} {xs : List Int} (g : Gs h lo 1 I1 (Fw.sl b o l c) xs) : o = 0 ∧ l = xs.length ∧ c = U + 1 ∧ xs ≠ [] ∧ lo ≤ b ∧ h.get b = some ⟨i64s xs, .grow⟩ := by
  rcases g with ⟨_, e⟩ | ⟨b', cs, e, h0, h1, h2, h3, h4, h5⟩
  · cases e
  · cases e
    refine ⟨rfl, rfl, rfl, h0, h1, ?_⟩
    have : cs = i64s xs := by
      apply List.ext_getElem?
      intro i
      by_cases hi : i < xs.length
      · have := h5 i xs[i] (List.getElem?_eq_getElem hi)
        have := congrArg (fun l => l[0]?) this
        simpa [List.getElem?_take, List.getElem?_drop, hi] using this
      · rw [List.getElem?_eq_none (by omega), List.getElem?_eq_none (by simp; omega)]
    rw [← this]; exact h2
theorem Gs.ofInts {lo b : Nat} {xs : List Int} (h0 : xs ≠ []) (hlo : lo ≤ b) (hb : h.get b = some ⟨i64s xs, .grow⟩) : Gs h lo 1 I1 (Fw.sl b 0 xs.length (U + 1)) xs := by
  refine .inr ⟨b, i64s xs, rfl, h0, hlo, hb, by simp, i64s_one xs, fun i z hz => ?_⟩
  have hi := (List.getElem?_eq_some_iff.1 hz).1
  have he := (List.getElem?_eq_some_iff.1 hz).2
  show _ = _
  rw [Nat.mul_one, List.drop_eq_getElem_cons (by simpa using hi), List.take_succ_cons, List.take_zero]
  simp [he]

theorem cl_sort {lo : Nat} {v : V} {xs : List Int} (g : Gs h lo 1 I1 v xs) (f : Fr n h) (hl : xs.length ≤ 1000) (k : ∀ h', Fr n h' → Gs h' lo 1 I1 v (sortBy id xs) → (∀ c, ¬ InB v c → h'.get c = h.get c) → Wp (K undef) n h' Q) : Wp (cl (slices_Sort F v) K) n h Q := by
  have hperm := sortBy_perm id xs
  have hsl : (sortBy id xs).length = xs.length := hperm.length_eq
  have g0 := g
  rcases g with ⟨rfl, rfl⟩ | ⟨b, cs, rfl, h0, h1, h2, h3, h4, h5⟩
  · exact (Wp.eq (m' := cl (Fw.ret undef) K) rfl).2 (Wp.cl' (Wp.retI.2 (k h f g0 fun _ _ => rfl)))
  · obtain ⟨_, _, _, _, _, hb⟩ := g0.ints
    obtain ⟨m, hm⟩ : ∃ m, xs.length = m + 1 := ⟨xs.length - 1, by have : xs.length ≠ 0 := fun q => h0 (List.eq_nil_of_length_eq_zero q); omega⟩
    have hrun : (slices_Sort F (sl b 0 xs.length (U + 1))).run n h = some (undef, n, h.set b ⟨i64s (sortBy id xs), .grow⟩) := by
      rw [hm]
      show (if m + 1 = 0 ∨ 1000000 < m + 1 then Fw.fail else bnd (rdN b 0 (m + 1)) fun vs => match intsOf vs with
        | some zs => bnd (wrN b 0 ((sortI zs).map i64)) fun _ => Fw.ret undef
        | none => Fw.fail : St).run n h = _
      rw [if_neg (by omega), run_rdN, hb, ldN_some (by decide) (by simp; omega), List.drop_zero, List.take_of_length_le (by simp; omega), intsOf_ints]
      have hwr : (wrN b 0 ((sortI xs).map i64)).run n h = some ((), n, h.set b ⟨i64s (sortBy id xs), .grow⟩) := by
        show wrNF b 0 ((sortBy id xs).map i64) n h = _
        unfold wrNF
        rw [hb]
        have ho : over (i64s xs) 0 (i64s (sortBy id xs)) = i64s (sortBy id xs) := by unfold over; simp [hsl]
        have h1 := i64s_one (sortBy id xs)
        simp only [h1, if_true]
        simp [hsl, ho]
      show (bnd (wrN b 0 ((sortI xs).map i64)) fun _ => Fw.ret undef).run n h = _
      rw [run_bnd hwr]; rfl
    refine Wp.of (run_bnd hrun) ?_
    have hne : sortBy id xs ≠ [] := fun q => h0 (by rw [q] at hsl; exact List.eq_nil_of_length_eq_zero hsl.symm)
    refine k _ (f.set _ (f.lt hb)) ?_ fun c hc => H.get_set_ne _ _ (fun q => hc ⟨0, xs.length, U + 1, by rw [q]⟩)
    have := Gs.ofInts (h := h.set b ⟨i64s (sortBy id xs), .grow⟩) hne h1 (H.get_set_same _ _ _)
    rw [hsl] at this; exact this

/-! ## Points of one function -/

theorem ptsFs_split : ∀ (fs : List Fun) (k j m : Nat) (x : Fun), fs[j]? = some x → m < szs x.blocks → (ptsFs fs k)[szf (fs.take j) + m]? = (ptsBs (k + j) x.blocks 0)[m]?
  | [], _, _, _, _, h, _ => by simp at h
  | y :: r, k, 0, m, x, h, hm => by
    cases h
    show (ptsBs k y.blocks 0 ++ ptsFs r (k + 1))[szf [] + m]? = _
    rw [show szf [] = 0 from rfl, Nat.zero_add, List.getElem?_append_left (by rw [ptsBs_len]; exact hm)]; rfl
  | y :: r, k, j + 1, m, x, h, hm => by
    show (ptsBs k y.blocks 0 ++ ptsFs r (k + 1))[_]? = _
    rw [List.take_succ_cons, szf_cons, List.getElem?_append_right (by rw [ptsBs_len]; omega), ptsBs_len, show szs y.blocks + szf (r.take j) + m - szs y.blocks = szf (r.take j) + m by omega, ptsFs_split r (k + 1) j m x h hm]
    congr 2; omega
/-- A function's points stand together. -/
theorem fun_points {P : Pg} {kf : Nat} {fn : Fun} (hf : P.funcs[kf]? = some fn) {a : Nat} {q : Pt} (hq : (pointsP P)[a]? = some q) : q.f = (kf : Int) ↔ szf (P.funcs.take kf) ≤ a ∧ a < szf (P.funcs.take kf) + szs fn.blocks := by
  constructor
  · intro h
    obtain ⟨j, jb, i, fn', bl, rfl, g1, g2, g3, g4⟩ := points_at.1 hq
    have : j = kf := by dsimp only at h; omega
    subst this
    rw [hf] at g1; cases g1
    have e := (ptsBs_at (f := j) (q := ⟨j, (0 + jb : Nat), i⟩) fn.blocks 0 (szs (fn.blocks.take jb) + i)).2 ⟨jb, i, bl, rfl, g2, g3, rfl⟩
    have := (List.getElem?_eq_some_iff.1 e).1
    rw [ptsBs_len] at this
    omega
  · rintro ⟨h1, h2⟩
    obtain ⟨m, rfl⟩ : ∃ m, a = szf (P.funcs.take kf) + m := ⟨a - szf (P.funcs.take kf), by omega⟩
    unfold pointsP at hq
    rw [ptsFs_split P.funcs 0 kf m fn hf (by omega), Nat.zero_add] at hq
    obtain ⟨j, i, bl, rfl, _⟩ := (ptsBs_at fn.blocks 0 m).1 hq
    rfl
theorem fun_some {P : Pg} {kf : Nat} {fn : Fun} (hf : P.funcs[kf]? = some fn) {m : Nat} (hm : m < szs fn.blocks) : ∃ q, (pointsP P)[szf (P.funcs.take kf) + m]? = some q ∧ q.f = (kf : Int) := by
  have h2 := szf_le P.funcs (kf + 1)
  rw [szf_take hf] at h2
  have : szf (P.funcs.take kf) + m < (pointsP P).length := by unfold pointsP; rw [ptsFs_len]; omega
  refine ⟨_, List.getElem?_eq_getElem this, (fun_points hf (List.getElem?_eq_getElem this)).2 ⟨by omega, by omega⟩⟩
end Go.Fn
end
section
set_option linter.unusedVariables false
namespace Go.Fn
open Go Go.Fw

variable {F n : Nat} {h : H} {Q : Post} {K : V → St}

/-- Lists that grow, each in its own place of a block. -/
structure AhS (h : H) (lo bA bB : Nat) (us : List V) (A : List (List Int)) : Prop where
  get : h.get bA = some ⟨us, .own⟩
  len : us.length = A.length
  one : us.all Fw.one = true
  each : ∀ (j : Nat) xs, A[j]? = some xs → ∃ u, us[j]? = some u ∧ Gs h lo 1 I1 u xs ∧ ¬ InB u bA ∧ ¬ InB u bB
  sep : ∀ (i j : Nat) u w b, i ≠ j → us[i]? = some u → us[j]? = some w → InB u b → ¬ InB w b

theorem AhS.ev {n' lo bA bB : Nat} {h' : H} {us : List V} {A : List (List Int)} (a : AhS h lo bA bB us A) (f : Fr n h) (e : Ev No n h n' h') : AhS h' lo bA bB us A :=
  ⟨by rw [e.no (f.lt a.get)]; exact a.get, a.len, a.one, fun j xs hx => by
    obtain ⟨u, h1, h2, h3⟩ := a.each j xs hx
    exact ⟨u, h1, h2.keep (fun c hc => e.no (h2.lt f hc).2) fun _ _ h => h, h3⟩, a.sep⟩
theorem AhS.ll {lo bA bB : Nat} {us : List V} {A : List (List Int)} (a : AhS h lo bA bB us A) (f : Fr n h) (hlo : lo ≤ bA) (hA : A.length < 100000) (hx : ∀ xs ∈ A, xs.length < 100000) : LL h (fun b => lo ≤ b ∧ b < n) (sl bA 0 A.length A.length) A := by
  refine ⟨by omega, .inr ⟨bA, 0, A.length, us, .own, rfl, fun _ => ⟨⟨hlo, f.lt a.get⟩, a.get, by decide, by rw [a.len]; omega⟩, fun j xs hj => ?_⟩⟩
  obtain ⟨u, h1, h2, _⟩ := a.each j xs hj
  have hl := hx xs (List.mem_of_getElem? hj)
  refine ⟨u, ?_, (h2.sl (by omega)).keep (fun b hb => h2.lt f hb) (fun _ _ => rfl) fun _ _ h => h⟩
  rw [Nat.zero_add, Nat.mul_one]
  exact take1 h1
theorem AhS.push {n0 bA bB j x : Nat} {h0 : H} {us : List V} {A : List (List Int)} {xs : List Int} {u : V} {K : V → St} (e : Ev No n0 h0 n h) (a : AhS h n0 bA bB us A) (hbA : n0 ≤ bA) (hj : A[j]? = some xs) (hu : us[j]? = some u) (hl : xs.length < 100000)
    (k : ∀ h' v', Ev No n0 h0 (n + 2) h' → h'.get bA = some ⟨us, .own⟩ → h'.get bB = h.get bB → (∀ h'', Ev No n0 h0 (n + 2) h'' → h''.get bA = some ⟨us.set j v', .own⟩ → (∀ c, c ≠ bA → h''.get c = h'.get c) → AhS h'' n0 bA bB (us.set j v') (A.set j (xs ++ [(x : Int)]))) → Fw.one v' = true → (∀ c, c < n → ¬ InB u c → h'.get c = h.get c) → (∀ c, InB v' c → n ≤ c) → Wp (K v') (n + 2) h' Q) (hB : bB < n) :
    Wp (kBuildSlice 1 (rep 1 [(i64 0)]) [⟨0, 1, false, i64 (x : Int)⟩] fun t => kApp 1 8 u t K) n h Q := by
  obtain ⟨u', h1, h2, h3, h4⟩ := a.each j xs hj
  rw [hu] at h1; cases h1
  have hbAn := e.f.lt a.get
  refine Gs.push (s := 1) (x := (x : Int)) (E := I1) (es := [i64 (x : Int)]) e h2 (by simp [fillA, rep, over, oneS]) rfl (by decide) (by simp [oneS]) rfl ⟨by omega, by decide⟩ fun h' v' e' g' _ same new => ?_
  refine k h' v' e' (by rw [same bA hbAn h3]; exact a.get) (same bB hB h4) (fun h'' e'' gA'' s'' => ?_) g'.one same new
  have hjl := (List.getElem?_eq_some_iff.1 hu).1
  refine ⟨gA'', by simp [a.len], set_all a.one g'.one, fun i ys hi => ?_, fun i i' w w' b hne hw hw' hb => ?_⟩
  · by_cases ei : i = j
    · subst ei
      rw [List.getElem?_set_self (by rw [← a.len]; exact hjl)] at hi; cases hi
      refine ⟨v', List.getElem?_set_self hjl, g'.keep (fun c hc => s'' c (fun q => by have := new c hc; omega)) fun _ _ h => h, fun q => by have := new _ q; omega, fun q => by have := new _ q; omega⟩
    · rw [List.getElem?_set_ne (fun q => ei q.symm)] at hi
      obtain ⟨w, w1, w2, w3, w4⟩ := a.each i ys hi
      refine ⟨w, by rw [List.getElem?_set_ne (fun q => ei q.symm)]; exact w1, w2.keep (fun c hc => ?_) fun _ _ h => h, w3, w4⟩
      have hcn := (w2.lt e.f hc).2
      rw [s'' c (fun q => w3 (by rw [q] at hc; exact hc)), same c hcn (a.sep i j w u c ei w1 hu hc)]
  · have old : ∀ {i w b}, i ≠ j → us[i]? = some w → InB w b → b < n := fun {i w b} hij hw hb => by
      have hil := (List.getElem?_eq_some_iff.1 hw).1
      obtain ⟨ys, hys⟩ : ∃ ys, A[i]? = some ys := ⟨A[i]'(by rw [← a.len]; exact hil), List.getElem?_eq_getElem _⟩
      obtain ⟨w', q1, q2, _⟩ := a.each i ys hys
      rw [hw] at q1; cases q1
      exact (q2.lt e.f hb).2
    by_cases ei : i = j
    · subst ei
      rw [List.getElem?_set_self hjl] at hw; cases hw
      rw [List.getElem?_set_ne hne] at hw'
      intro hb'
      have := new b hb
      have := old (fun q => hne q.symm) hw' hb'
      omega
    · rw [List.getElem?_set_ne (fun q => ei q.symm)] at hw
      by_cases ei' : i' = j
      · subst ei'
        rw [List.getElem?_set_self hjl] at hw'; cases hw'
        intro hb'
        have := new b hb'
        have := old ei hw hb
        omega
      · rw [List.getElem?_set_ne (fun q => ei' q.symm)] at hw'
        exact a.sep i i' w w' b hne hw hw' hb

theorem rep_nsl : ∀ N : Nat, rep N [nsl] = List.replicate N nsl
  | 0 => rfl
  | N + 1 => by
    have := rep_nsl N
    unfold rep at this ⊢
    rw [List.replicate_succ, List.flatten_cons, this, List.replicate_succ]; rfl
theorem Wp.lists {N : Nat} (hN : N ≤ 100000) (f : Fr n h) (k : ∀ h', Ev No n h (n + 1) h' → h'.get n = some ⟨List.replicate N nsl, .own⟩ → Wp (K (sl n 0 N N)) (n + 1) h' Q) : Wp (kMake 24 [nsl] (i64 (N : Int)) (i64 (N : Int)) K) n h Q := by
  have e := rep_nsl N
  have h1 : (rep N [nsl]).all one = true := by rw [e]; simp [oneS]
  have := k _ ((Ev.start f).new ⟨List.replicate N nsl, .own⟩) (H.get_set_same _ _ _)
  refine Wp.of ?_ this
  have := Fw.run_make (k := K) (bytes := 24) (z := [nsl]) (l := N) (c := N) (by rw [Int.toNat_natCast]; omega) f (by rw [Int.toNat_natCast]; exact h1)
  rw [Int.toNat_natCast, e] at this
  exact this

/-- Who is told ahead of each, so far. -/
def AhM (P : Pg) (fr : Nat) (A : List (List Int)) (k i : Nat) : Prop :=
  ∀ (j : Nat) xs, A[j]? = some xs → ∀ x, x ∈ xs ↔ ∃ (k' : Nat) (q : Pt), x = ((fr + k' : Nat) : Int) ∧ (pointsP P)[fr + k']? = some q ∧ (k' < k ∧ ((fr + j : Nat) : Int) ∈ succP P q ∨ k' = k ∧ ((fr + j : Nat) : Int) ∈ (succP P q).take i)
theorem succP_len (P : Pg) (q : Pt) : (succP P q).length ≤ 2 := by unfold succP; rw [List.length_map]; exact nextP_len P q

theorem of_wp {n0 : Nat} {P : Pg} {bp : Nat} {vr vs vi vm vf : V} (p : Prg h n0 P bp vr vs vi vm vf) (lm : Lm P) (nm : Nm P) {kf : Nat} {fn : Fun} (hf : P.funcs[kf]? = some fn) (hF : 100000 < F) (f : Fr n h) (hn : n0 ≤ n)
    (k : ∀ n' h' bB bA A, Ev No n h n' h' → h'.get bB = some ⟨[i64 (szf (P.funcs.take kf) : Int), sl bA 0 (szs fn.blocks) (szs fn.blocks)], .own⟩ → n ≤ bB → bB < n' → LL h' (fun b => n ≤ b ∧ b < n') (sl bA 0 (szs fn.blocks) (szs fn.blocks)) A → A.length = szs fn.blocks → (∀ xs ∈ A, xs.length ≤ 1000) → AhM P (szf (P.funcs.take kf)) A (szs fn.blocks) 0 → Q (pt bB 0) n' h') : Wp (reach_Of F (pt bp 0) (i64 (kf : Int))) n h Q := by
  unfold reach_Of
  have lx := lm.fun_ fn (List.mem_of_getElem? hf)
  have lxb := lx.blocks
  have lpt : szf P.funcs ≤ 4464 := by
    have := lm.points
    unfold pointsP at this
    rwa [ptsFs_len] at this
  have hfrN := szf_le P.funcs (kf + 1)
  rw [szf_take hf] at hfrN
  have hN372 : szs fn.blocks ≤ 372 := by
    have h2 := sum_le (f := fun b : Blo => b.code.length + 1) (c := 31) fn.blocks fun b hb => by have := (lx.each b hb).code; omega
    have : fn.blocks.length * 31 ≤ 12 * 31 := Nat.mul_le_mul_right _ lxb
    unfold szs; omega
  obtain ⟨bl0, hbl0, _⟩ := Sl.get (show 0 < fn.blocks.length by have := lx.some_; omega)
  have hfirst := points_at.2 ⟨kf, 0, 0, fn, bl0, rfl, hf, hbl0, Nat.zero_le _, rfl⟩
  have hnum : numP P ⟨(kf : Int), 0, 0⟩ = (szf (P.funcs.take kf) : Int) := by
    have := numP_eq hfirst
    simpa [szs] using this
  have hok0 : PtOk P ⟨(kf : Int), 0, 0⟩ := PtOk.of hfirst
  have hNpos : 0 < szs fn.blocks := by
    have := szs_le fn.blocks 1
    rw [szs_take hbl0] at this
    have h0 : szs (fn.blocks.take 0) = 0 := rfl
    omega
  generalize hfr : szf (P.funcs.take kf) = fr at *
  generalize hNN : szs fn.blocks = N at *
  refine Wp.buildI.2 ⟨[i64 (kf : Int), i64 0, i64 0], by simp [fillA, oneS], ?_⟩
  refine cl_irnumber p lm (q := ⟨kf, 0, 0⟩) hok0 (by omega) f hn fun n1 h1 e1 => ?_
  rw [hnum]
  have le1 := e1.le
  simp only [wpS.1, wpS.2.1, wpS.2.2.1, wpS.2.2.2.2, decide_eq_true_eq, decide_eq_false_iff_not]
  refine ⟨fun h => absurd h (by omega), fun _ => ?_⟩
  refine Wp.buildI.2 ⟨[i64 (fr : Int), nsl], by simp [fillA, oneS], ?_⟩
  refine (Wp.boxNI e1.f).2 ⟨by simp [oneS], ?_⟩
  have e2 := e1.new ⟨[i64 (fr : Int), nsl], .own⟩
  have g2 : (h1.set n1 ⟨[i64 (fr : Int), nsl], .own⟩).get n1 = some ⟨[i64 (fr : Int), nsl], .own⟩ := H.get_set_same _ _ _
  simp only [List.toList_toArray]
  generalize h1.set n1 ⟨[i64 (fr : Int), nsl], .own⟩ = h2 at e2 g2
  have p2 := p.keep (Kp.ev e2 hn)
  refine Wp.jn (fun j => ∀ n' h', Ev No n h n' h' → n1 < n' → h'.get n1 = some ⟨[i64 (fr : Int), nsl], .own⟩ → Wp (j (pt bp 0) (i64 (fr : Int)) (pt n1 0) (i64 (N : Int))) n' h' Q) ?_ fun j5 hj5 => ?_
  case refine_1 =>
    intro n3 h3 e3 hlt3 g3
    refine Wp.lists (by omega) e3.f fun h4 e4 g4 => ?_
    have e34 := Ev.more e3 e4
    have g4B : h4.get n1 = some ⟨[i64 (fr : Int), nsl], .own⟩ := by rw [e4.no hlt3, g3]
    simp only [wpS.1, wpS.2.1, wpS.2.2.1, wpS.2.2.2.2, Nat.zero_add]
    rw [st1W g4B (.inl rfl) (by simp) rfl]
    have e5 := e34.set (b := n1) ⟨[i64 (fr : Int), nsl].set 1 (sl n3 0 N N), .own⟩ (by omega) (by omega)
    have g5B : (h4.set n1 ⟨[i64 (fr : Int), nsl].set 1 (sl n3 0 N N), .own⟩).get n1 = some ⟨[i64 (fr : Int), sl n3 0 N N], .own⟩ := H.get_set_same _ _ _
    have a5 : AhS (h4.set n1 ⟨[i64 (fr : Int), nsl].set 1 (sl n3 0 N N), .own⟩) n n3 n1 (List.replicate N nsl) (List.replicate N []) := by
      refine ⟨by rw [H.get_set_ne _ _ (by omega), g4], by simp, by simp [oneS], fun j xs hj => ?_, fun i j u w b _ hu _ hb => ?_⟩
      · rw [List.getElem?_replicate] at hj
        split at hj
        · rename_i hjN
          cases hj
          exact ⟨nsl, by rw [List.getElem?_replicate, if_pos hjN], Gs.nil, (fun ⟨_, _, _, q⟩ => by cases q), (fun ⟨_, _, _, q⟩ => by cases q)⟩
        · cases hj
      · rw [List.getElem?_replicate] at hu
        split at hu
        · cases hu; obtain ⟨_, _, _, q⟩ := hb; cases q
        · cases hu
    generalize h4.set n1 ⟨[i64 (fr : Int), nsl].set 1 (sl n3 0 N N), .own⟩ = h5 at e5 g5B a5
    refine Wp.jn (fun j => ∀ n' h' us A, Ev No n h n' h' → n1 < n' → n3 < n' → h'.get n1 = some ⟨[i64 (fr : Int), sl n3 0 N N], .own⟩ → AhS h' n n3 n1 us A → A.length = N → (∀ xs ∈ A, xs.length ≤ 1000) → AhM P fr A N 0 → Wp (j (pt n1 0)) n' h' Q) ?_ fun j14 hj14 => ?_
    case refine_1 =>
      intro n' h' us A e' hl1 hl3 gB aS hA hx hm
      have := aS.ll e'.f (by omega) (by omega) (fun xs h => by have := hx xs h; omega)
      rw [hA] at this
      exact Wp.retI.2 (k n' h' n1 n3 A e' gB (by omega) hl1 this hA hx hm)
    refine Wp.loop5 (fun d x0 x1 x2 x3 x4 n' h' => x0 = pt bp 0 ∧ x1 = i64 (fr : Int) ∧ x2 = pt n1 0 ∧ x3 = i64 (N : Int) ∧ ∃ (i : Nat) (us : List V) (A : List (List Int)), x4 = i64 (i : Int) ∧ i + d = N ∧ Ev No n h n' h' ∧ n1 < n' ∧ n3 < n' ∧ h'.get n1 = some ⟨[i64 (fr : Int), sl n3 0 N N], .own⟩ ∧ AhS h' n n3 n1 us A ∧ A.length = N ∧ (∀ xs ∈ A, xs.length ≤ 2 * i) ∧ AhM P fr A i 0) ?_ (d := N) ⟨rfl, rfl, rfl, rfl, 0, _, _, rfl, by omega, e5, by omega, by omega, g5B, a5, by simp, (fun xs hx => by rw [List.mem_replicate] at hx; rw [hx.2]; simp), fun j xs hj x => ?_⟩ (by omega)
    case refine_2 =>
      rw [List.getElem?_replicate] at hj
      split at hj
      · cases hj; simp
      · cases hj
    rintro d _ _ _ _ _ n6 h6 rec ⟨rfl, rfl, rfl, rfl, i, us, A, rfl, hid, e6, hl1, hl3, g6, a6, hA, hx6, hm6⟩ hr
    have wi := wrap_succ (show i < 9223372036854775807 by omega)
    simp only [wpS.1, wpS.2.1, wpS.2.2.1, wpS.2.2.2.2, decide_eq_true_eq, decide_eq_false_iff_not]
    refine ⟨fun hlt => ?_, fun hge => hj14 _ _ us A e6 hl1 hl3 g6 a6 hA (fun xs h => by have := hx6 xs h; omega) (by have hi : i = N := (by omega); rw [hi] at hm6; exact hm6)⟩
    have hiN : i < N := by omega
    obtain ⟨q, hq, hqf⟩ := fun_some hf (m := i) (by omega)
    rw [hfr] at hq
    have p6 := p.keep (Kp.ev e6 hn)
    have hls := succP_len P q
    refine Wp.jn (fun j => ∀ n' h' us A, Ev No n h n' h' → n1 < n' → n3 < n' → h'.get n1 = some ⟨[i64 (fr : Int), sl n3 0 N N], .own⟩ → AhS h' n n3 n1 us A → A.length = N → (∀ xs ∈ A, xs.length ≤ 2 * (i + 1)) → AhM P fr A i (succP P q).length → Wp (j (pt bp 0) (i64 (fr : Int)) (pt n1 0) (i64 (N : Int)) (i64 (i : Int))) n' h' Q) ?_ fun j23 hj23 => ?_
    case refine_1 =>
      intro n' h' us A e' hl1 hl3 gB aS hA hx hm
      simp only [wpS, wi]
      refine hr (d - 1) _ _ _ _ _ _ _ (by omega) ⟨rfl, rfl, rfl, rfl, i + 1, us, A, rfl, by omega, e', hl1, hl3, gB, aS, hA, hx, fun j xs hj x => ?_⟩
      rw [hm j xs hj x]
      constructor
      · rintro ⟨k', q', h1, h2, h3 | h3⟩
        · exact ⟨k', q', h1, h2, .inl ⟨by omega, h3.2⟩⟩
        · refine ⟨k', q', h1, h2, .inl ⟨by omega, ?_⟩⟩
          exact List.mem_of_mem_take h3.2
      · rintro ⟨k', q', h1, h2, h3 | h3⟩
        · by_cases hk : k' < i
          · exact ⟨k', q', h1, h2, .inl ⟨hk, h3.2⟩⟩
          · have hki : k' = i := by omega
            subst hki
            rw [hq] at h2; cases h2
            exact ⟨k', q, h1, hq, .inr ⟨rfl, by rw [List.take_of_length_le (Nat.le_refl _)]; exact h3.2⟩⟩
        · have := h3.2; simp at this
    simp only [wpS.1, wpS.2.1, wpS.2.2.1, wpS.2.2.2.2]
    rw [wrap64 (by omega), show (fr : Int) + (i : Int) = ((fr + i : Nat) : Int) by omega]
    refine Wp.cl' (irnext_wp p6 lm nm hq (by omega) e6.f (by omega) fun n7 h7 vl e7 s7 => ?_)
    have le7 := e7.le
    have e67 := Ev.more e6 e7
    simp only [s7.len]
    refine Wp.loop9 (fun d2 x0 x1 x2 x3 x4 x5 x6 x7 x8 n' h' => x0 = pt bp 0 ∧ x1 = i64 (fr : Int) ∧ x2 = pt n1 0 ∧ x3 = i64 (i : Int) ∧ x4 = i64 (N : Int) ∧ x5 = i64 (i : Int) ∧ x6 = vl ∧ x7 = i64 ((succP P q).length : Int) ∧ ∃ (m : Nat) (us : List V) (A : List (List Int)), x8 = i64 (m : Int) ∧ m + d2 = (succP P q).length ∧ Ev No n h n' h' ∧ n7 ≤ n' ∧ h'.get n1 = some ⟨[i64 (fr : Int), sl n3 0 N N], .own⟩ ∧ AhS h' n n3 n1 us A ∧ A.length = N ∧ (∀ xs ∈ A, xs.length ≤ 2 * i + m) ∧ AhM P fr A i m ∧ Sl h' (fun b => n6 ≤ b ∧ b < n7) 1 I1 vl (succP P q) ∧ (∀ (j : Nat) u b, us[j]? = some u → InB u b → b < n6 ∨ n7 ≤ b)) ?_ (d := (succP P q).length) ⟨rfl, rfl, rfl, rfl, rfl, rfl, rfl, rfl, 0, us, A, rfl, by omega, e67, Nat.le_refl _, by rw [e7.no hl1, g6], a6.ev e6.f e7, hA, hx6, hm6, s7, fun j u b hu hb => by
      have hjl := (List.getElem?_eq_some_iff.1 hu).1
      obtain ⟨ys, hys⟩ : ∃ ys, A[j]? = some ys := ⟨A[j]'(by rw [← a6.len]; exact hjl), List.getElem?_eq_getElem _⟩
      obtain ⟨w', q1, q2, _⟩ := a6.each j ys hys
      rw [hu] at q1; cases q1
      exact .inl (q2.lt e6.f hb).2⟩ (by omega)
    rintro d2 _ _ _ _ _ _ vl _ _ n8 h8 rec2 ⟨rfl, rfl, rfl, rfl, rfl, rfl, rfl, rfl, m, us8, A8, rfl, hmd, e8, hn8, g8, a8, hA8, hx8, hm8, s8, hus8⟩ hr2
    have wm := wrap_succ (show m < 9223372036854775807 by omega)
    simp only [wpS.1, wpS.2.1, wpS.2.2.1, wpS.2.2.2.2, decide_eq_true_eq, decide_eq_false_iff_not]
    refine ⟨fun hlt2 => ?_, fun hge2 => hj23 _ _ us8 A8 e8 (by omega) (by omega) g8 a8 hA8 (fun xs h => by have := hx8 xs h; omega) (by have hi : m = (succP P q).length := (by omega); rw [hi] at hm8; exact hm8)⟩
    obtain ⟨z, hz, _⟩ := Sl.get (show m < (succP P q).length by omega)
    -- the point behind stands in the function, too
    obtain ⟨j, hjN, hzj⟩ : ∃ j : Nat, j < N ∧ z = ((fr + j : Nat) : Int) := by
      obtain ⟨q', hq', rfl⟩ := List.mem_map.1 (List.mem_of_getElem? hz)
      obtain ⟨_, hok', hff⟩ := nextP_ok hq'
      obtain ⟨a', ha', hna'⟩ := hok'.num
      have := (fun_points hf ha').1 (by rw [hff, hqf])
      rw [hfr, hNN] at this
      exact ⟨a' - fr, by omega, by rw [hna']; omega⟩
    subst hzj
    obtain ⟨b9, o9, cs9, kd9, _, hix9, hb9, hk9, rfl, hcs9, _⟩ := s8.at hz
    have c9 : cs9[o9]? = _ := hcs9 0 _ rfl
    obtain ⟨xs, hxs⟩ : ∃ xs, A8[j]? = some xs := ⟨A8[j]'(by omega), List.getElem?_eq_getElem _⟩
    obtain ⟨u, hu, gu, hu1, hu2⟩ := a8.each j xs hxs
    have hxl := hx8 xs (List.mem_of_getElem? hxs)
    simp only [hix9, wpS.1, wpS.2.1, wpS.2.2.1, wpS.2.2.2.2, wpM.1, hb9, ldv_live hk9, c9, g8, ldv_own, Nat.zero_add, List.getElem?_cons_succ, List.getElem?_cons_zero, Option.some.injEq, exists_eq_left']
    rw [wrap64 (by omega), show ((fr + j : Nat) : Int) - (fr : Int) = (j : Int) by omega, ixI hjN, Nat.zero_add, Nat.mul_one, ldW a8.get (by decide) hu]
    simp only [wpS.1, wpS.2.1, wpS.2.2.1, wpS.2.2.2.2]
    rw [wrap64 (by omega), show (fr : Int) + (i : Int) = ((fr + i : Nat) : Int) by omega]
    refine AhS.push (x := fr + i) e8 a8 (by omega) hxs hu (by omega) (fun h10 v10 e10 gA10 gB10 mk one10 same10 new10 => ?_) (by omega)
    have g10 : h10.get n1 = some ⟨[i64 (fr : Int), sl n3 0 N N], .own⟩ := by rw [gB10, g8]
    refine Wp.chkI.2 ?_
    rw [g10]
    refine ⟨by simp, by simp [veqS], ?_⟩
    have hjlen : j < us8.length := by rw [a8.len]; omega
    rw [ixI hjN, Nat.zero_add, Nat.mul_one, st1W gA10 (.inl rfl) hjlen one10]
    simp only [wpS, wm]
    have e11 := e10.set (b := n3) ⟨us8.set j v10, .own⟩ (by omega) (by omega)
    have a11 := mk _ e11 (H.get_set_same _ _ _) fun c hc => H.get_set_ne _ _ hc
    have hbn : ∀ b, InB u b → b < n6 ∨ n7 ≤ b := fun b hb => hus8 j u b hu hb
    refine hr2 (d2 - 1) _ _ _ _ _ _ _ _ _ _ _ (by omega) ⟨rfl, rfl, rfl, rfl, rfl, rfl, rfl, rfl, m + 1, us8.set j v10, A8.set j (xs ++ [((fr + i : Nat) : Int)]), rfl, by omega, e11, by omega, by rw [H.get_set_ne _ _ (by omega), g10], a11, by simp [hA8], fun ys hy => ?_, fun j' ys hj' x => ?_, ?_, fun j' w b hw hb => ?_⟩
    · rcases List.mem_or_eq_of_mem_set hy with hy | rfl
      · have := hx8 ys hy; omega
      · simp; omega
    · by_cases ej : j' = j
      · subst ej
        rw [List.getElem?_set_self (by omega)] at hj'; cases hj'
        rw [List.mem_append, hm8 j' xs hxs x]
        constructor
        · rintro (⟨k', q', r1, r2, r3 | r3⟩ | hx)
          · exact ⟨k', q', r1, r2, .inl r3⟩
          · exact ⟨k', q', r1, r2, .inr ⟨r3.1, List.mem_of_mem_take (i := m) (by rw [List.take_take]; rw [show min m (m + 1) = m by omega]; exact r3.2)⟩⟩
          · simp only [List.mem_singleton] at hx
            exact ⟨i, q, hx, hq, .inr ⟨rfl, by rw [List.take_add_one, hz]; simp⟩⟩
        · rintro ⟨k', q', r1, r2, r3 | r3⟩
          · exact .inl ⟨k', q', r1, r2, .inl r3⟩
          · obtain ⟨rfl, r3⟩ := r3
            exact .inr (by simp [r1])
      · rw [List.getElem?_set_ne (fun q => ej q.symm)] at hj'
        rw [hm8 j' ys hj' x]
        constructor
        · rintro ⟨k', q', r1, r2, r3 | r3⟩
          · exact ⟨k', q', r1, r2, .inl r3⟩
          · exact ⟨k', q', r1, r2, .inr ⟨r3.1, List.mem_of_mem_take (i := m) (by rw [List.take_take]; rw [show min m (m + 1) = m by omega]; exact r3.2)⟩⟩
        · rintro ⟨k', q', r1, r2, r3 | r3⟩
          · exact ⟨k', q', r1, r2, .inl r3⟩
          · obtain ⟨rfl, r3⟩ := r3
            rw [hq] at r2; cases r2
            refine ⟨k', q, r1, hq, .inr ⟨rfl, ?_⟩⟩
            rw [List.take_add_one, hz] at r3
            rcases List.mem_append.1 r3 with r3 | r3
            · exact r3
            · simp at r3; omega
    · refine s8.keep (fun _ h => h) (fun b hb => ?_) fun _ _ h => h
      rw [H.get_set_ne _ _ (by omega), same10 b (by omega) fun q => by have := hbn b q; omega]
    · by_cases ej : j' = j
      · subst ej
        rw [List.getElem?_set_self hjlen] at hw; cases hw
        exact .inr (by have := new10 b hb; omega)
      · rw [List.getElem?_set_ne (fun q => ej q.symm)] at hw
        exact hus8 j' w b hw hb
  have ge2 := e2.le
  obtain ⟨b1, o1, cs1, kd1, _, hix1, hb1, hk1, ⟨vg, vb, rfl, sr, sb, _⟩, hcs1, _⟩ := p2.funcs.at hf
  have f2 := hcs1 2 _ rfl
  simp only [wpS.1, wpS.2.1, wpS.2.2.1, wpS.2.2.2.2, wpM.1, p2.at_, ldv_ro, Nat.zero_add, Nat.add_zero, List.getElem?_cons_succ, List.getElem?_cons_zero, Option.some.injEq, exists_eq_left', hix1, hb1, ldv_live hk1, f2, sb.len]
  refine Wp.loop7 (fun d x0 x1 x2 x3 x4 x5 x6 n' h' => x0 = pt bp 0 ∧ x1 = i64 (fr : Int) ∧ x2 = pt n1 0 ∧ x4 = vb ∧ x5 = i64 (fn.blocks.length : Int) ∧ ∃ i : Nat, x6 = i64 (i : Int) ∧ x3 = i64 (szs (fn.blocks.take i) : Int) ∧ i + d = fn.blocks.length ∧ Ev No n h n' h' ∧ n1 < n' ∧ (∀ c, c ≤ n1 → h'.get c = h2.get c)) ?_ (d := fn.blocks.length) ⟨rfl, rfl, rfl, rfl, rfl, 0, rfl, rfl, by omega, e2, by omega, fun _ _ => rfl⟩ (by omega)
  rintro d _ _ _ _ _ _ _ n3 h3 rec ⟨rfl, rfl, rfl, rfl, rfl, i, rfl, rfl, hid, e3, hl3, k3⟩ hr
  have wi := wrap_succ (show i < 9223372036854775807 by omega)
  simp only [wpS.1, wpS.2.1, wpS.2.2.1, wpS.2.2.2.2, decide_eq_true_eq, decide_eq_false_iff_not]
  refine ⟨fun hlt => ?_, fun hge => ?_⟩
  case refine_2 =>
    rw [List.take_of_length_le (show fn.blocks.length ≤ i by omega), hNN]
    exact hj5 _ _ e3 hl3 (by rw [k3 _ (Nat.le_refl _), g2])
  have kp3 : Kp n0 h2 h3 := fun b hb => k3 b (by omega)
  have sb3 := sb.keep kp3 (BloC.keep kp3)
  obtain ⟨bl, hbl, _⟩ := Sl.get (show i < fn.blocks.length by omega)
  obtain ⟨b4, o4, cs4, kd4, _, hix4, hb4, hk4, ⟨vc, rfl, sc, _⟩, hcs4, _, hl4, hd4⟩ := sb3.at hbl
  have hst := szs_take hbl
  have hsl := szs_le fn.blocks (i + 1)
  rw [hix4]
  refine Wp.copy e3 hb4 hk4 hl4 hd4 (by simp [oneS, sc.one]) rfl rfl fun h5 e5 g5 k5 => ?_
  have sc5 := sc.keep (h' := h5) (fun b hb => k5 b (by omega)) fun _ _ h => h
  simp only [wpS.1, wpS.2.1, wpS.2.2.1, wpS.2.2.2.2, wpM.1, g5, ldv_own, Nat.zero_add, Nat.add_zero, List.getElem?_cons_succ, List.getElem?_cons_zero, Option.some.injEq, exists_eq_left', sc5.len, wi]
  rw [wrap64 (show -9223372036854775808 ≤ (bl.code.length : Int) + 1 ∧ (bl.code.length : Int) + 1 ≤ 9223372036854775807 by omega), wrap64 (by omega), show (szs (fn.blocks.take i) : Int) + ((bl.code.length : Int) + 1) = (szs (fn.blocks.take (i + 1)) : Int) by rw [hst]; omega]
  exact hr (d - 1) _ _ _ _ _ _ _ _ _ (by omega) ⟨rfl, rfl, rfl, rfl, rfl, i + 1, rfl, rfl, by omega, e5, by omega, fun c hc => by rw [k5 c (by omega), k3 c hc]⟩
end Go.Fn
end
section
set_option linter.unusedVariables false
namespace Go.Fn
open Go Go.Fw

/-- What is come to from a point against the edges, through points that are not told. -/
inductive BackR (A : List (List Int)) (fr : Nat) (df : Nat → Prop) (a : Nat) : Nat → Prop
  | base {xs : List Int} {m : Nat} : A[a]? = some xs → ((fr + m : Nat) : Int) ∈ xs → BackR A fr df a m
  | step {k m : Nat} {xs : List Int} : BackR A fr df a k → ¬ df k → A[k]? = some xs → ((fr + m : Nat) : Int) ∈ xs → BackR A fr df a m

/-- The search's state: who is marked, who waits, who is told, whether the beginning was met, and who is looked at. -/
structure FI (A : List (List Int)) (N fr a : Nat) (df : Nat → Prop) (bs : List Bool) (ws ls : List Int) (g : Bool) (c m : Nat) : Prop where
  len : bs.length = N
  back : ∀ i, bs[i]? = some true → BackR A fr df a i
  ls_ : ∀ x, x ∈ ls ↔ ∃ i : Nat, x = ((fr + i : Nat) : Int) ∧ bs[i]? = some true ∧ df i
  nd : ls.Nodup
  cnt : ls.length + bs.count false ≤ N
  ws_ : ∀ x ∈ ws, ∃ i : Nat, i < N ∧ x = ((fr + i : Nat) : Int) ∧ (i = a ∨ bs[i]? = some true ∧ ¬ df i)
  done : ∀ (i : Nat) xs, (i = a ∨ bs[i]? = some true ∧ ¬ df i) → ((fr + i : Nat) : Int) ∉ ws → A[i]? = some xs → ∀ k z : Nat, xs[k]? = some ((fr + z : Nat) : Int) → (i = c → k < m) → bs[z]? = some true
  g_ : g = true ↔ (a = 0 ∨ bs[0]? = some true ∧ ¬ df 0)
  cur : c < N → c = a ∨ bs[c]? = some true ∧ ¬ df c

theorem FI.pop {A : List (List Int)} {N fr a : Nat} {df : Nat → Prop} {bs : List Bool} {w : Int} {ws ls : List Int} {g : Bool} (v : FI A N fr a df bs (w :: ws) ls g N 0) (hA : A.length = N) : ∃ c : Nat, c < N ∧ w = ((fr + c : Nat) : Int) ∧ FI A N fr a df bs ws ls g c 0 := by
  obtain ⟨c, hc, hw, hd⟩ := v.ws_ w List.mem_cons_self
  refine ⟨c, hc, hw, v.len, v.back, v.ls_, v.nd, v.cnt, fun x hx => v.ws_ x (List.mem_cons_of_mem _ hx), fun i xs h1 h2 h3 k z h4 h5 => ?_, v.g_, fun _ => hd⟩
  by_cases hi : i = c
  · have := h5 hi; omega
  · exact v.done i xs h1 (fun q => by
      rcases List.mem_cons.1 q with q | q
      · rw [hw] at q; omega
      · exact h2 q) h3 k z h4 fun q => by
        have := (List.getElem?_eq_some_iff.1 h3).1; omega
theorem FI.next {A : List (List Int)} {N fr a c m : Nat} {df : Nat → Prop} {bs : List Bool} {ws ls : List Int} {g : Bool} (v : FI A N fr a df bs ws ls g c m) {xs : List Int} (hx : A[c]? = some xs) (hm : xs.length ≤ m) : FI A N fr a df bs ws ls g N 0 := by
  refine ⟨v.len, v.back, v.ls_, v.nd, v.cnt, v.ws_, fun i ys h1 h2 h3 k z h4 h5 => ?_, v.g_, fun h => absurd h (by omega)⟩
  refine v.done i ys h1 h2 h3 k z h4 fun q => ?_
  subst q
  rw [hx] at h3; cases h3
  have := (List.getElem?_eq_some_iff.1 h4).1; omega
theorem FI.seen {A : List (List Int)} {N fr a c m z : Nat} {df : Nat → Prop} {bs : List Bool} {ws ls : List Int} {g : Bool} (v : FI A N fr a df bs ws ls g c m) {xs : List Int} (hx : A[c]? = some xs) (hm : xs[m]? = some ((fr + z : Nat) : Int)) (hz : bs[z]? = some true) : FI A N fr a df bs ws ls g c (m + 1) := by
  refine ⟨v.len, v.back, v.ls_, v.nd, v.cnt, v.ws_, fun i ys h1 h2 h3 k y h4 h5 => ?_, v.g_, v.cur⟩
  by_cases hi : i = c ∧ k = m
  · obtain ⟨rfl, rfl⟩ := hi
    rw [hx] at h3; cases h3
    rw [hm] at h4
    have : z = y := by injection h4 with h4; omega
    rw [← this]; exact hz
  · exact v.done i ys h1 h2 h3 k y h4 fun q => by have := h5 q; omega

theorem set_true {bs : List Bool} {z i : Nat} (hz : z < bs.length) : (bs.set z true)[i]? = some true ↔ i = z ∨ bs[i]? = some true := by
  by_cases h : i = z
  · subst h; rw [List.getElem?_set_self hz]; simp
  · rw [List.getElem?_set_ne (fun q => h q.symm)]; simp [h]
theorem FI.back' {A : List (List Int)} {N fr a c m z : Nat} {df : Nat → Prop} {bs : List Bool} {ws ls : List Int} {g : Bool} (v : FI A N fr a df bs ws ls g c m) (hc : c < N) {xs : List Int} (hx : A[c]? = some xs) (hm : ((fr + z : Nat) : Int) ∈ xs) : BackR A fr df a z := by
  rcases v.cur hc with rfl | ⟨h1, h2⟩
  · exact .base hx hm
  · exact .step (v.back c h1) h2 hx hm
/-- One that is told. -/
theorem FI.told {A : List (List Int)} {N fr a c m z : Nat} {df : Nat → Prop} {bs : List Bool} {ws ls : List Int} {g : Bool} (v : FI A N fr a df bs ws ls g c m) (hc : c < N) {xs : List Int} (hx : A[c]? = some xs) (hm : xs[m]? = some ((fr + z : Nat) : Int)) (hzN : z < N) (hz : bs[z]? = some false) (hd : df z) :
    FI A N fr a df (bs.set z true) ws (ls ++ [((fr + z : Nat) : Int)]) g c (m + 1) := by
  have hzl : z < bs.length := by rw [v.len]; exact hzN
  have hnz : ∀ i, (i = z ∨ bs[i]? = some true) ∧ ¬ df i ↔ bs[i]? = some true ∧ ¬ df i := fun i => by
    constructor
    · rintro ⟨rfl | h, h2⟩
      · exact absurd hd h2
      · exact ⟨h, h2⟩
    · exact fun h => ⟨.inr h.1, h.2⟩
  have hg := (List.getElem?_eq_some_iff.1 hz).2
  refine ⟨by rw [List.length_set, v.len], fun i hi => ?_, fun x => ?_, ?_, ?_, fun x hx => ?_, fun i ys h1 h2 h3 k y h4 h5 => ?_, ?_, fun h => ?_⟩
  · rcases (set_true hzl).1 hi with rfl | h
    · exact v.back' hc hx (List.mem_of_getElem? hm)
    · exact v.back i h
  · rw [List.mem_append, v.ls_ x]
    constructor
    · rintro (⟨i, h1, h2, h3⟩ | h)
      · exact ⟨i, h1, (set_true hzl).2 (.inr h2), h3⟩
      · exact ⟨z, by simpa using h, (set_true hzl).2 (.inl rfl), hd⟩
    · rintro ⟨i, h1, h2, h3⟩
      rcases (set_true hzl).1 h2 with rfl | h
      · exact .inr (by simp [h1])
      · exact .inl ⟨i, h1, h, h3⟩
  · rw [List.nodup_append]
    refine ⟨v.nd, by simp, fun x hx y hy => ?_⟩
    simp only [List.mem_singleton] at hy
    rintro rfl
    obtain ⟨i, h1, h2, _⟩ := (v.ls_ x).1 hx
    have : i = z := by omega
    subst this
    rw [hz] at h2; cases h2
  · have := count_mark hzl hg
    have := v.cnt
    simp; omega
  · obtain ⟨i, h1, h2, h3⟩ := v.ws_ x hx
    exact ⟨i, h1, h2, h3.imp id fun h => ⟨(set_true hzl).2 (.inr h.1), h.2⟩⟩
  · rw [set_true hzl, hnz] at h1
    refine (set_true hzl).2 ?_
    by_cases hi : i = c ∧ k = m
    · obtain ⟨rfl, rfl⟩ := hi
      rw [hx] at h3; cases h3
      rw [hm] at h4
      left; injection h4 with h4; omega
    · exact .inr (v.done i ys h1 h2 h3 k y h4 fun q => by have := h5 q; omega)
  · rw [v.g_, set_true hzl, hnz]
  · exact (v.cur h).imp id fun h => ⟨(set_true hzl).2 (.inr h.1), h.2⟩
/-- One that leads on. -/
theorem FI.way {A : List (List Int)} {N fr a c m z : Nat} {df : Nat → Prop} {bs : List Bool} {ws ls : List Int} {g : Bool} (v : FI A N fr a df bs ws ls g c m) (hc : c < N) {xs : List Int} (hx : A[c]? = some xs) (hm : xs[m]? = some ((fr + z : Nat) : Int)) (hzN : z < N) (hz : bs[z]? = some false) (hd : ¬ df z) :
    FI A N fr a df (bs.set z true) (ws ++ [((fr + z : Nat) : Int)]) ls (g || decide (z = 0)) c (m + 1) := by
  have hzl : z < bs.length := by rw [v.len]; exact hzN
  have hg := (List.getElem?_eq_some_iff.1 hz).2
  have hcm := count_mark hzl hg
  refine ⟨by rw [List.length_set, v.len], fun i hi => ?_, fun x => ?_, v.nd, by have := v.cnt; omega, fun x hx => ?_, fun i ys h1 h2 h3 k y h4 h5 => ?_, ?_, fun h => ?_⟩
  · rcases (set_true hzl).1 hi with rfl | h
    · exact v.back' hc hx (List.mem_of_getElem? hm)
    · exact v.back i h
  · rw [v.ls_ x]
    constructor
    · rintro ⟨i, h1, h2, h3⟩
      exact ⟨i, h1, (set_true hzl).2 (.inr h2), h3⟩
    · rintro ⟨i, h1, h2, h3⟩
      rcases (set_true hzl).1 h2 with rfl | h
      · exact absurd h3 hd
      · exact ⟨i, h1, h, h3⟩
  · rcases List.mem_append.1 hx with hx | hx
    · obtain ⟨i, h1, h2, h3⟩ := v.ws_ x hx
      exact ⟨i, h1, h2, h3.imp id fun h => ⟨(set_true hzl).2 (.inr h.1), h.2⟩⟩
    · exact ⟨z, hzN, by simpa using hx, .inr ⟨(set_true hzl).2 (.inl rfl), hd⟩⟩
  · have hiz : i ≠ z := fun q => h2 (by simp [q])
    rw [set_true hzl] at h1
    have h1' : i = a ∨ bs[i]? = some true ∧ ¬ df i := h1.imp id fun h => ⟨h.1.resolve_left hiz, h.2⟩
    refine (set_true hzl).2 ?_
    by_cases hi : i = c ∧ k = m
    · obtain ⟨rfl, rfl⟩ := hi
      rw [hx] at h3; cases h3
      rw [hm] at h4
      left; injection h4 with h4; omega
    · exact .inr (v.done i ys h1' (fun q => h2 (List.mem_append_left _ q)) h3 k y h4 fun q => by have := h5 q; omega)
  · rw [Bool.or_eq_true, v.g_, decide_eq_true_eq, set_true hzl]
    constructor
    · rintro ((h | h) | rfl)
      · exact .inl h
      · exact .inr ⟨.inr h.1, h.2⟩
      · exact .inr ⟨.inl rfl, hd⟩
    · rintro (h | ⟨h | h, h2⟩)
      · exact .inl (.inl h)
      · exact .inr h.symm
      · exact .inl (.inr ⟨h, h2⟩)
  · exact (v.cur h).imp id fun h => ⟨(set_true hzl).2 (.inr h.1), h.2⟩
theorem FI.start {A : List (List Int)} {N fr a : Nat} {df : Nat → Prop} (ha : a < N) : FI A N fr a df (List.replicate N false) [((fr + a : Nat) : Int)] [] (decide (a = 0)) N 0 := by
  have hn : ∀ i, (List.replicate N false)[i]? ≠ some true := fun i h => by
    rw [List.getElem?_replicate] at h
    split at h <;> cases h
  refine ⟨by simp, fun i h => absurd h (hn i), fun x => ⟨fun h => absurd h (by simp), fun ⟨i, _, h, _⟩ => absurd h (hn i)⟩, List.nodup_nil, by simp, fun x hx => ⟨a, ha, by simpa using hx, .inl rfl⟩, fun i xs h1 h2 => ?_, ?_, fun h => absurd h (by omega)⟩
  · rcases h1 with rfl | h1
    · exact absurd (List.mem_singleton.2 rfl) h2
    · exact absurd h1.1 (hn i)
  · rw [decide_eq_true_eq]
    exact ⟨.inl, fun h => h.resolve_right fun h => hn 0 h.1⟩
/-- At the end all are marked. -/
theorem FI.all {A : List (List Int)} {N fr a : Nat} {df : Nat → Prop} {bs : List Bool} {ls : List Int} {g : Bool} (v : FI A N fr a df bs [] ls g N 0) (hA : A.length = N) (i : Nat) : bs[i]? = some true ↔ BackR A fr df a i := by
  refine ⟨v.back i, fun h => ?_⟩
  have st : ∀ {k m xs}, (k = a ∨ bs[k]? = some true ∧ ¬ df k) → A[k]? = some xs → ((fr + m : Nat) : Int) ∈ xs → bs[m]? = some true := fun {k m xs} h1 h2 h3 => by
    obtain ⟨j, hj⟩ := List.getElem?_of_mem h3
    exact v.done k xs h1 (by simp) h2 j m hj fun q => by have := (List.getElem?_eq_some_iff.1 h2).1; omega
  induction h with
  | base h1 h2 => exact st (.inl rfl) h1 h2
  | step h1 h2 h3 h4 ih => exact st (.inr ⟨ih, h2⟩) h3 h4
end Go.Fn
end
section
set_option linter.unusedVariables false
namespace Go.Fn
open Go Go.Fw

variable {F n : Nat} {h : H} {Q : Post} {K : V → St}

theorem some1_wp {n0 b1 b2 : Nat} {r : Int} {P : Pg} {bp : Nat} {vr vs vi vm vf : V} (p : Prg h n0 P bp vr vs vi vm vf) (lm : Lm P) {a : Nat} {q : Pt} (hq : (pointsP P)[a]? = some q) (hF : 1000 < F) (f : Fr n h) (hn : n0 ≤ n) (g1 : h.get b1 = some ⟨[pt bp 0], .own⟩) (g2 : h.get b2 = some ⟨[i64 r], .own⟩)
    (k : ∀ n' h' b, Ev No n h n' h' → (b = true ↔ DefAt P q r) → Q (bo b) n' h') : Wp (reach_Some_1 F (i64 (a : Int)) (pt b1 0) (pt b2 0)) n h Q := by
  unfold reach_Some_1
  have hb2 := f.lt g2
  simp only [wpM.1, g1, ldv_own, List.getElem?_cons_zero, Option.some.injEq, exists_eq_left']
  refine Wp.cl' (irat_wp p lm hq hF f hn fun n1 h1 v e1 c1 => ?_)
  have le1 := e1.le
  have go : ∀ (x : Ins) (w : V), Fw.one w = true → ∀ (z : Bool), (z = true → codeP P q = some x) → (z = false → codeP P q = none) → Wp (kExtract (.tuple #[insV x w, bo z]) 0 fun v2 => kExtract (.tuple #[insV x w, bo z]) 1 fun v3 => kPtr [(i64 0), (i64 0), (i64 0), (i64 0), (i64 0), nsl] fun v4 => kStoreN 6 v4 v2 fun _ => kLoadN 6 v4 fun v6 => cl (ir_Def F v6) fun v7 => kExtract v7 0 fun v8 => kExtract v7 1 fun v9 => onB v3 (onB v9 (kLoad (pt b2 0) fun v10 => kEql v8 v10 fun v11 => ret v11) (ret (bo false))) (ret (bo false))) n1 h1 Q := by
    intro x w hw z hz1 hz2
    simp only [Wp.extractI, List.getElem?_cons_zero, List.getElem?_cons_succ, Option.some.injEq, exists_eq_left']
    refine ⟨by simp [isNF], by simp [isNF], ?_⟩
    refine Wp.put (cs := [i64 x.op, i64 x.dst, i64 x.a, i64 x.b, i64 x.n, w]) e1.f (by simp [oneS]) (by simp [oneS, hw]) rfl rfl ?_
    have e2 := ((e1.new ⟨[i64 0, i64 0, i64 0, i64 0, i64 0, nsl], .own⟩).set (b := n1) ⟨[i64 x.op, i64 x.dst, i64 x.a, i64 x.b, i64 x.n, w], .own⟩ (by omega) (by omega))
    have g3 : ((h1.set n1 ⟨[i64 0, i64 0, i64 0, i64 0, i64 0, nsl], .own⟩).set n1 ⟨[i64 x.op, i64 x.dst, i64 x.a, i64 x.b, i64 x.n, w], .own⟩).get n1 = some ⟨[i64 x.op, i64 x.dst, i64 x.a, i64 x.b, i64 x.n, w], .own⟩ := H.get_set_same _ _ _
    generalize (h1.set n1 ⟨[i64 0, i64 0, i64 0, i64 0, i64 0, nsl], .own⟩).set n1 ⟨[i64 x.op, i64 x.dst, i64 x.a, i64 x.b, i64 x.n, w], .own⟩ = h2 at e2 g3
    refine Wp.loadNI.2 ?_
    rw [g3]
    refine (ldn_live (by decide)).2 ⟨by simp, ?_⟩
    refine Wp.cl' (irdef_wp (x := x) (v := w) hw e2.f fun n3 h3 e3 => ?_)
    have e23 := Ev.more e2 e3
    have g23 : h3.get b2 = some ⟨[i64 r], .own⟩ := by rw [e23.no hb2, g2]
    cases z with
    | false =>
      have hnd : ¬ DefAt P q r := fun ⟨c, h1, _⟩ => by rw [hz2 rfl] at h1; cases h1
      have := k _ _ false e23 ⟨(fun h => absurd h (by decide)), fun h => absurd h hnd⟩
      cases hd : defP x <;> simpa [optV, wpS, wpM, isNF] using this
    | true =>
      have hc := hz1 rfl
      cases hd : defP x with
      | none =>
        have hnd : ¬ DefAt P q r := fun ⟨c, h1, h2⟩ => by rw [hc] at h1; cases h1; rw [hd] at h2; cases h2
        have := k _ _ false e23 ⟨(fun h => absurd h (by decide)), fun h => absurd h hnd⟩
        simpa [optV, wpS, wpM, isNF] using this
      | some d =>
        have := k _ _ (decide (d = r)) e23 ⟨fun h => ⟨x, hc, by rw [hd, of_decide_eq_true h]⟩, fun ⟨c, h1, h2⟩ => by rw [hc] at h1; cases h1; rw [hd] at h2; cases h2; simp⟩
        simpa [optV, wpS, wpM, isNF, g23, ldv_own] using this
  rcases c1 with ⟨hc, rfl⟩ | ⟨x, w, hc, sw, _, rfl⟩
  · exact go ⟨0, 0, 0, 0, 0, []⟩ nsl rfl false (fun h => absurd h (by decide)) fun _ => hc
  · exact go x w sw.one true (fun _ => hc) (fun h => absurd h (by decide))
theorem stv_one {v : V} (h : Fw.one v = true) : stv v = true := by cases v <;> first | rfl | (exact absurd h (by simp [Fw.one]))
theorem kCall_some1 {b1 b2 : Nat} {x : V} : kCall (reach_Back_Find_E F) (.func (.func 45) #[] #[pt b1 0, pt b2 0]) [x] K = cl (reach_Some_1 F x (pt b1 0) (pt b2 0)) K := rfl

theorem find_wp {n0 b1 b2 bB bA fr N a : Nat} {B : Nat → Prop} {r : Int} {P : Pg} {bp : Nat} {vr vs vi vm vf : V} {A : List (List Int)} {df : Nat → Prop} (p : Prg h n0 P bp vr vs vi vm vf) (lm : Lm P) (g1 : h.get b1 = some ⟨[pt bp 0], .own⟩) (g2 : h.get b2 = some ⟨[i64 r], .own⟩) (gB : h.get bB = some ⟨[i64 (fr : Int), sl bA 0 N N], .own⟩)
    (lA : LL h B (sl bA 0 N N) A) (hB : ∀ b, B b → b < n) (hAN : A.length = N) (hN : N ≤ 372) (hfr : fr ≤ 4464) (hok : ∀ xs ∈ A, xs.length ≤ 1000 ∧ ∀ x ∈ xs, ∃ z : Nat, z < N ∧ x = ((fr + z : Nat) : Int)) (ha : a < N)
    (hpt : ∀ z, z < N → ∃ q, (pointsP P)[fr + z]? = some q ∧ (df z ↔ DefAt P q r)) (hF : 100000 < F) (f : Fr n h) (hn : n0 ≤ n)
    (k : ∀ n' h' v ls g bs, Ev No n h n' h' → Gs h' n 1 I1 v (sortBy id ls) → FI A N fr a df bs [] ls g N 0 → Q (.tuple #[v, bo g]) n' h') : Wp (reach_Back_Find F (pt bB 0) (i64 ((fr + a : Nat) : Int)) (.func (.func 45) #[] #[pt b1 0, pt b2 0])) n h Q := by
  unfold reach_Back_Find
  have hbB := f.lt gB
  have hb1 := f.lt g1
  have hb2 := f.lt g2
  simp only [wpS.1, wpS.2.1, wpS.2.2.1, wpS.2.2.2.2, wpM.1, gB, ldv_own, Nat.zero_add, Nat.add_zero, List.getElem?_cons_zero, List.getElem?_cons_succ, Option.some.injEq, exists_eq_left']
  refine Wp.marks (by omega) f fun h1 e1 m1 => ?_
  have gB1 : h1.get bB = some ⟨[i64 (fr : Int), sl bA 0 N N], .own⟩ := by rw [e1.no hbB, gB]
  simp only [wpS.1, wpS.2.1, wpS.2.2.1, wpS.2.2.2.2, wpM.1, gB1, ldv_own, Nat.zero_add, Nat.add_zero, List.getElem?_cons_zero, List.getElem?_cons_succ, Option.some.injEq, exists_eq_left']
  rw [show decide (((fr + a : Nat) : Int) = (fr : Int)) = decide (a = 0) from decide_eq_decide.2 (by omega)]
  refine (Wp.buildSliceI e1.f).2 ⟨[i64 ((fr + a : Nat) : Int)], by simp [fillA, rep, over, oneS], by simp [oneS], ?_⟩
  have e2 := e1.new ⟨[i64 ((fr + a : Nat) : Int)], .own⟩
  have q2 : Qs (h1.set (n + 1) ⟨[i64 ((fr + a : Nat) : Int)], .own⟩) n 1 I1 (sl (n + 1) 0 1 1) [((fr + a : Nat) : Int)] := Qs.lit (H.get_set_same _ _ _) (by omega) rfl rfl (by simp [oneS]) (by decide) fun i x hx => by
    cases i with
    | zero => cases hx; rfl
    | succ i => cases hx
  have m2 : Mk (h1.set (n + 1) ⟨[i64 ((fr + a : Nat) : Int)], .own⟩) n (List.replicate N false) := by
    show H.get _ _ = _
    rw [H.get_set_ne _ _ (by omega)]; exact m1
  generalize h1.set (n + 1) ⟨[i64 ((fr + a : Nat) : Int)], .own⟩ = h2 at e2 q2 m2
  let Iv := fun (vl vq : V) (bs : List Bool) (ws ls : List Int) (g : Bool) (c m n' : Nat) (h' : H) => Ev No n h n' h' ∧ n < n' ∧ Mk h' n bs ∧ Qs h' n 1 I1 vq ws ∧ Gs h' n 1 I1 vl ls ∧ ¬ InB vq n ∧ ¬ InB vl n ∧ (∀ b, InB vl b → ¬ InB vq b) ∧ FI A N fr a df bs ws ls g c m
  have iv0 : Iv nsl (sl (n + 1) 0 1 1) (List.replicate N false) [((fr + a : Nat) : Int)] [] (decide (a = 0)) N 0 (n + 2) h2 :=
    ⟨e2, by omega, m2, q2, Gs.nil, (fun ⟨_, _, _, q⟩ => by cases q), (fun ⟨_, _, _, q⟩ => by cases q), (fun _ ⟨_, _, _, q⟩ => by cases q), FI.start ha⟩
  refine Wp.jn (fun j => ∀ vl vq bs ls g n' h', Iv vl vq bs [] ls g N 0 n' h' → Wp (j vl (bo g)) n' h' Q) ?_ fun j10 hj10 => ?_
  case refine_1 =>
    rintro vl vq bs ls g n' h' ⟨e', hlt, m', q', l', d1, d2, d3, fi⟩
    have hcnt := fi.cnt
    refine cl_sort l' e'.f (by omega) fun h3 f3 l3 s3 => ?_
    simp only [wpS]
    exact ⟨stv_one l3.one, rfl, k _ _ _ ls g bs ⟨f3, e'.le, fun b hb hP => by rw [s3 b (fun q => by have := (l'.lt e'.f q).1; omega)]; exact e'.keep b hb hP⟩ l3 fi⟩
  refine Wp.loop6 (fun d x0 x1 x2 x3 x4 x5 n' h' => x0 = pt bB 0 ∧ x1 = .func (.func 45) #[] #[pt b1 0, pt b2 0] ∧ x3 = sl n 0 N N ∧ ∃ (bs : List Bool) (ws ls : List Int) (g : Bool), x4 = bo g ∧ Iv x2 x5 bs ws ls g N 0 n' h' ∧ bs.count false + ws.length ≤ d ∧ d ≤ N + 1) ?_ (d := N + 1) ⟨rfl, rfl, rfl, _, _, _, _, rfl, iv0, by simp, by omega⟩ (by omega)
  rintro d _ _ vl _ _ vq n3 h3 rec ⟨rfl, rfl, rfl, bs, ws, ls, g, rfl, iv, hd, hdN⟩ hr
  obtain ⟨e3, hlt3, m3, q3, l3, s1, s2, s3, fi⟩ := iv
  have hbc : bs.count false ≤ bs.length := List.count_le_length
  have hbl := fi.len
  have sq := q3.sl (by omega)
  simp only [wpS.1, wpS.2.1, wpS.2.2.1, wpS.2.2.2.2, sq.len, decide_eq_true_eq, decide_eq_false_iff_not]
  have iv3 : Iv vl vq bs ws ls g N 0 n3 h3 := ⟨e3, hlt3, m3, q3, l3, s1, s2, s3, fi⟩
  refine ⟨fun hpos => ?_, fun hnil => hj10 vl vq bs ls g n3 h3 ?_⟩
  case refine_2 =>
    have : ws = [] := List.eq_nil_of_length_eq_zero (by omega)
    rw [this] at iv3; exact iv3
  cases ws with
  | nil => simp at hpos
  | cons w ws =>
  obtain ⟨c, hc, rfl, fi'⟩ := fi.pop hAN
  obtain ⟨b4, o4, cs4, kd4, _, hix4, hb4, hk4, rfl, hcs4, _⟩ := sq.at (i := 0) rfl
  have c4 : cs4[o4]? = _ := hcs4 0 _ rfl
  obtain ⟨vq', hv', qs', hin⟩ := q3.tail
  simp only [Int.natCast_zero] at hix4
  have gB3 : h3.get bB = some ⟨[i64 (fr : Int), sl bA 0 N N], .own⟩ := by rw [e3.no hbB, gB]
  simp only [hix4, wpS.1, wpS.2.1, wpS.2.2.1, wpS.2.2.2.2, wpM.1, hb4, ldv_live hk4, c4, hv', gB3, ldv_own, Nat.zero_add, Nat.add_zero, List.getElem?_cons_zero, List.getElem?_cons_succ, Option.some.injEq, exists_eq_left']
  rw [wrap64 (by omega), show ((fr + c : Nat) : Int) - (fr : Int) = (c : Int) by omega]
  obtain ⟨xs, hxs⟩ : ∃ xs, A[c]? = some xs := ⟨A[c]'(by omega), List.getElem?_eq_getElem _⟩
  obtain ⟨lx, rx⟩ := hok xs (List.mem_of_getElem? hxs)
  have lt3 : Sl h3 B 1 (fun cs xs => ∃ u, cs = [u] ∧ Sl h3 B 1 I1 u xs) (sl bA 0 N N) A := lA.keep (B' := B) (fun _ h => h) (fun b hb => e3.no (hB b hb)) fun cs xs ⟨u, e2', x⟩ => ⟨u, e2', x.keep (fun _ h => h) (fun b hb => e3.no (hB b hb)) fun _ _ h => h⟩
  obtain ⟨b5, o5, cs5, kd5, _, hix5, hb5, hk5, ⟨u, rfl, su⟩, hcs5, _⟩ := lt3.at hxs
  have c5 : cs5[o5]? = _ := hcs5 0 _ rfl
  simp only [hix5, wpM.1, hb5, ldv_live hk5, c5, Option.some.injEq, exists_eq_left', su.len]
  simp only [List.length_cons] at hd
  refine Wp.loop9 (fun d2 x0 x1 x2 x3 x4 x5 x6 x7 x8 n' h' => x0 = pt bB 0 ∧ x1 = .func (.func 45) #[] #[pt b1 0, pt b2 0] ∧ x3 = sl n 0 N N ∧ x6 = u ∧ x7 = i64 (xs.length : Int) ∧ ∃ (m : Nat) (bs : List Bool) (ws ls : List Int) (g : Bool), x8 = i64 (m : Int) ∧ x4 = bo g ∧ m + d2 = xs.length ∧ Ev No n3 h3 n3 h3 ∧ Iv x2 x5 bs ws ls g c m n' h' ∧ bs.count false + ws.length < d) ?_ (d := xs.length) ⟨rfl, rfl, rfl, rfl, rfl, 0, bs, ws, ls, g, rfl, rfl, by omega, Ev.start e3.f, ⟨e3, hlt3, m3, qs', l3, (fun q => s1 (hin _ q)), s2, (fun b hb q => s3 b hb (hin _ q)), fi'⟩, by omega⟩ (by omega)
  have su0 : Sl h B 1 I1 u xs := su.keep (fun _ h => h) (fun b hb => (e3.no (hB b hb)).symm) fun _ _ h => h
  rintro d2 _ _ vl4 _ _ vq4 u _ _ n4 h4 rec2 ⟨rfl, rfl, rfl, rfl, rfl, m, bs4, ws4, ls4, g4, rfl, rfl, hm, _, iv4, hd4⟩ hr2
  have iv4' := iv4
  obtain ⟨e4, hlt4, m4, q4, l4, t1, t2, t3, fi4⟩ := iv4'
  have wm := wrap_succ (show m < 9223372036854775807 by omega)
  simp only [wpS.1, wpS.2.1, wpS.2.2.1, wpS.2.2.2.2, decide_eq_true_eq, decide_eq_false_iff_not]
  refine ⟨fun hlt => ?_, fun hge => hr _ _ _ _ _ _ _ _ _ hd4 ⟨rfl, rfl, rfl, bs4, ws4, ls4, g4, rfl, ⟨e4, hlt4, m4, q4, l4, t1, t2, t3, fi4.next hxs (by omega)⟩, Nat.le_refl _, by omega⟩⟩
  refine Wp.jn (fun j => ∀ vl vq bs ws ls g n' h', Iv vl vq bs ws ls g c (m + 1) n' h' → bs.count false + ws.length < d → Wp (j (pt bB 0) (.func (.func 45) #[] #[pt b1 0, pt b2 0]) vl (sl n 0 N N) (bo g) vq u (i64 (xs.length : Int)) (i64 (m : Int))) n' h' Q) ?_ fun j47 hj47 => ?_
  case refine_1 =>
    intro vl vq bs ws ls g n' h' iv hc
    simp only [wpS, wm]
    exact hr2 (d2 - 1) _ _ _ _ _ _ _ _ _ _ _ (by omega) ⟨rfl, rfl, rfl, rfl, rfl, m + 1, bs, ws, ls, g, rfl, rfl, by omega, Ev.start e3.f, iv, hc⟩
  obtain ⟨y, hy, _⟩ := Sl.get (show m < xs.length by omega)
  obtain ⟨z, hzN, rfl⟩ := rx y (List.mem_of_getElem? hy)
  have su4 : Sl h4 B 1 I1 u xs := su0.keep (fun _ h => h) (fun b hb => e4.no (hB b hb)) fun _ _ h => h
  obtain ⟨b6, o6, cs6, kd6, _, hix6, hb6, hk6, rfl, hcs6, _⟩ := su4.at hy
  have c6 : cs6[o6]? = _ := hcs6 0 _ rfl
  have gB4 : h4.get bB = some ⟨[i64 (fr : Int), sl bA 0 N N], .own⟩ := by rw [e4.no hbB, gB]
  have hbl4 := fi4.len
  have hz4 : z < bs4.length := by omega
  have wz : IntKind.i64.wrap (((fr + z : Nat) : Int) - (fr : Int)) = (z : Int) := by rw [wrap64 (by omega)]; omega
  simp only [hix6, wpS.1, wpS.2.1, wpS.2.2.1, wpS.2.2.2.2, wpM.1, hb6, ldv_live hk6, c6, gB4, ldv_own, Nat.zero_add, Nat.add_zero, List.getElem?_cons_zero, List.getElem?_cons_succ, Option.some.injEq, exists_eq_left', wz]
  rw [ixI hzN, Nat.zero_add, Nat.mul_one, m4.load hz4]
  simp only [wpS.1, wpS.2.1, wpS.2.2.1, wpS.2.2.2.2]
  have hgz : bs4[z]? = some bs4[z] := List.getElem?_eq_getElem hz4
  refine ⟨fun hseen => hj47 _ _ _ _ _ _ _ _ ⟨e4, hlt4, m4, q4, l4, t1, t2, t3, fi4.seen hxs hy (by rw [hgz, hseen])⟩ hd4, fun hnew => ?_⟩
  rw [hnew] at hgz
  simp only [wpS.1, wpS.2.1, wpS.2.2.1, wpS.2.2.2.2, wpM.1, gB4, ldv_own, Nat.zero_add, Nat.add_zero, List.getElem?_cons_zero, List.getElem?_cons_succ, Option.some.injEq, exists_eq_left', wz]
  rw [ixI hzN, Nat.zero_add, Nat.mul_one]
  refine m4.mark hz4 ?_
  have e5 := e4.set (b := n) ⟨bos (bs4.set z true), .own⟩ (by omega) hlt4
  have q5 : Qs (h4.set n ⟨bos (bs4.set z true), .own⟩) n 1 I1 vq4 ws4 := q4.keep (fun c hc => by rw [H.get_set_ne _ _ (fun q => t1 (by subst q; exact hc))]) fun _ _ h => h
  have l5 : Gs (h4.set n ⟨bos (bs4.set z true), .own⟩) n 1 I1 vl4 ls4 := l4.keep (fun c hc => by rw [H.get_set_ne _ _ (fun q => t2 (by subst q; exact hc))]) fun _ _ h => h
  have m5 : Mk (h4.set n ⟨bos (bs4.set z true), .own⟩) n (bs4.set z true) := H.get_set_same _ _ _
  have cm := count_mark hz4 hnew
  have cnt4 := fi4.cnt
  generalize h4.set n ⟨bos (bs4.set z true), .own⟩ = h5 at e5 q5 l5 m5
  rw [kCall_some1]
  obtain ⟨q, hq, hdf⟩ := hpt z hzN
  refine Wp.cl' (some1_wp (p.keep (Kp.ev e5 hn)) lm hq (by omega) e5.f (by have := e5.le; omega) (by rw [e5.no hb1, g1]) (by rw [e5.no hb2, g2]) fun n6 h6 b e6 hbd => ?_)
  have le6 := e6.le
  have e56 := Ev.more e5 e6
  have m6 : Mk h6 n (bs4.set z true) := by
    show h6.get n = _
    rw [e6.no hlt4]; exact m5
  have q6 : Qs h6 n 1 I1 vq4 ws4 := q5.keep (fun c hc => e6.no (q5.lt e5.f hc).2) fun _ _ h => h
  have l6 : Gs h6 n 1 I1 vl4 ls4 := l5.keep (fun c hc => e6.no (l5.lt e5.f hc).2) fun _ _ h => h
  rw [← hdf] at hbd
  refine Wp.bool.2 ⟨fun hb => ?_, fun hb => ?_⟩
  · have hdz := hbd.1 hb
    refine Gs.push (s := 1) (x := ((fr + z : Nat) : Int)) (E := I1) (es := [i64 ((fr + z : Nat) : Int)]) e56 l6 (by simp [fillA, rep, over, oneS]) rfl (by decide) (by simp [oneS]) rfl ⟨by omega, by decide⟩ fun h7 v7 e7 l7 _ same7 new7 => ?_
    refine hj47 _ _ _ _ _ _ _ _ ⟨e7, by omega, ?_, q6.keep (fun c hc => same7 c (q6.lt e6.f hc).2 fun q => t3 c q hc) fun _ _ h => h, l7, t1, (fun q => by have := new7 n q; omega), fun c h1 h2 => by have := new7 c h1; have := (q6.lt e6.f h2).2; omega, fi4.told hc hxs hy hzN hgz hdz⟩ (by omega)
    show h7.get n = _
    rw [same7 n (by omega) t2]; exact m6
  · have hdz : ¬ df z := fun q => by rw [hbd.2 q] at hb; cases hb
    refine Wp.jn (fun j => ∀ g, g = (g4 || decide (z = 0)) → Wp (j (pt bB 0) (.func (.func 45) #[] #[pt b1 0, pt b2 0]) vl4 (sl n 0 N N) (bo g) vq4 (i64 ((fr + z : Nat) : Int)) u (i64 (xs.length : Int)) (i64 (m : Int))) n6 h6 Q) ?_ fun j75 hj75 => ?_
    case refine_1 =>
      rintro _ rfl
      refine Qs.push (s := 1) (x := ((fr + z : Nat) : Int)) (E := I1) (es := [i64 ((fr + z : Nat) : Int)]) e56 q6 (by simp [fillA, rep, over, oneS]) rfl (by decide) (by simp [oneS]) rfl ⟨by omega, by decide⟩ fun h7 v7 e7 q7 same7 new7 => ?_
      refine hj47 _ _ _ _ _ _ _ _ ⟨e7, by omega, ?_, q7, l6.keep (fun c hc => same7 c (l6.lt e6.f hc).2 (t3 c hc)) fun _ _ h => h, (fun q => by have := new7 n q; omega), t2, fun c h1 h2 => by have := new7 c h2; have := (l6.lt e6.f h1).2; omega, fi4.way hc hxs hy hzN hgz hdz⟩ (by simp; omega)
      show h7.get n = _
      rw [same7 n (by omega) t1]; exact m6
    refine Wp.bool.2 ⟨fun hg => hj75 true (by rw [hg]; rfl), fun hg => ?_⟩
    have gB6 : h6.get bB = some ⟨[i64 (fr : Int), sl bA 0 N N], .own⟩ := by rw [e56.no hbB, gB]
    simp only [wpS.1, wpS.2.1, wpS.2.2.1, wpS.2.2.2.2, wpM.1, gB6, ldv_own, Nat.zero_add, Nat.add_zero, List.getElem?_cons_zero, List.getElem?_cons_succ, Option.some.injEq, exists_eq_left']
    exact hj75 _ (by rw [hg, Bool.false_or]; exact decide_eq_decide.2 (by omega))
end Go.Fn
end
section
set_option linter.unusedVariables false
namespace Go.Fn
open Go Go.Fw

variable {F n : Nat} {h : H} {Q : Post} {K : V → St}

/-- What leads to a point by a way that does not define a register. -/
inductive BackP (P : Pg) (r : Int) (at_ : Pt) : Pt → Prop
  | base {q : Pt} : at_ ∈ nextP P q → BackP P r at_ q
  | step {q q' : Pt} : BackP P r at_ q → ¬ DefAt P q r → q ∈ nextP P q' → BackP P r at_ q'

theorem BackP.on {P : Pg} {r : Int} {a a' d : Pt} (b : BackP P r a d) (hn : ¬ DefAt P a r) (he : a' ∈ nextP P a) : BackP P r a' d := by
  induction b with
  | base h => exact .step (.base he) hn h
  | step _ h1 h2 ih => exact .step ih h1 h2
theorem BackP.fn {P : Pg} {r : Int} {a d : Pt} (b : BackP P r a d) : PtOk P d ∧ d.f = a.f := by
  induction b with
  | base h => obtain ⟨h1, _, h3⟩ := nextP_ok h; exact ⟨h1, h3.symm⟩
  | step _ _ h ih => obtain ⟨h1, _, h3⟩ := nextP_ok h; exact ⟨h1, by rw [← h3]; exact ih.2⟩
theorem Fwd.back {P : Pg} {r f : Int} {q : Pt} (w : Fwd P r f q) : q = ⟨f, 0, 0⟩ ∨ BackP P r q ⟨f, 0, 0⟩ ∧ ¬ DefAt P ⟨f, 0, 0⟩ r := by
  induction w with
  | start => exact .inl rfl
  | step _ hn he ih =>
    rcases ih with rfl | ⟨h1, h2⟩
    · exact .inr ⟨.base he, hn⟩
    · exact .inr ⟨h1.on hn he, h2⟩

/-- A point of the function, by its number. -/
theorem fun_num {P : Pg} {kf : Nat} {fn : Fun} (hf : P.funcs[kf]? = some fn) {q : Pt} (hq : PtOk P q) (hqf : q.f = (kf : Int)) : ∃ i, i < szs fn.blocks ∧ (pointsP P)[szf (P.funcs.take kf) + i]? = some q ∧ numP P q = ((szf (P.funcs.take kf) + i : Nat) : Int) := by
  obtain ⟨a, ha, hn⟩ := hq.num
  have := (fun_points hf ha).1 hqf
  refine ⟨a - szf (P.funcs.take kf), by omega, ?_, ?_⟩
  · rw [show szf (P.funcs.take kf) + (a - szf (P.funcs.take kf)) = a by omega]; exact ha
  · rw [hn]; omega

theorem BackP.num {P : Pg} {kf : Nat} {fn : Fun} (hf : P.funcs[kf]? = some fn) {r : Int} {df : Nat → Prop} {A : List (List Int)} (hA : A.length = szs fn.blocks) (am : AhM P (szf (P.funcs.take kf)) A (szs fn.blocks) 0)
    (hdf : ∀ z, z < szs fn.blocks → ∀ q, (pointsP P)[szf (P.funcs.take kf) + z]? = some q → (df z ↔ DefAt P q r)) {a : Nat} {at_ d : Pt} (hat : (pointsP P)[szf (P.funcs.take kf) + a]? = some at_) (ha : a < szs fn.blocks) (b : BackP P r at_ d) :
    ∃ i, i < szs fn.blocks ∧ (pointsP P)[szf (P.funcs.take kf) + i]? = some d ∧ BackR A (szf (P.funcs.take kf)) df a i := by
  have hatf : at_.f = (kf : Int) := (fun_points hf hat).2 ⟨by omega, by omega⟩
  have edge : ∀ {k : Nat} {q q' : Pt}, k < szs fn.blocks → (pointsP P)[szf (P.funcs.take kf) + k]? = some q → q ∈ nextP P q' → q'.f = (kf : Int) → ∃ i xs, i < szs fn.blocks ∧ (pointsP P)[szf (P.funcs.take kf) + i]? = some q' ∧ A[k]? = some xs ∧ ((szf (P.funcs.take kf) + i : Nat) : Int) ∈ xs := by
    intro k q q' hk hq he hf'
    obtain ⟨h1, _, _⟩ := nextP_ok he
    obtain ⟨i, hi, hpi, _⟩ := fun_num hf h1 hf'
    obtain ⟨xs, hxs⟩ : ∃ xs, A[k]? = some xs := ⟨A[k]'(by omega), List.getElem?_eq_getElem _⟩
    exact ⟨i, xs, hi, hpi, hxs, (am k xs hxs _).2 ⟨i, q', rfl, hpi, .inl ⟨hi, List.mem_map.2 ⟨q, he, numP_eq hq⟩⟩⟩⟩
  induction b with
  | base he =>
    obtain ⟨_, _, h3⟩ := nextP_ok he
    obtain ⟨i, xs, h1, h2, h4, h5⟩ := edge ha hat he (by rw [← h3]; exact hatf)
    exact ⟨i, h1, h2, .base h4 h5⟩
  | step b' hn he ih =>
    obtain ⟨k, hk, hkq, hb⟩ := ih
    obtain ⟨_, _, h3⟩ := nextP_ok he
    obtain ⟨i, xs, h1, h2, h4, h5⟩ := edge hk hkq he (by rw [← h3, b'.fn.2]; exact hatf)
    exact ⟨i, h1, h2, .step hb (fun q => hn ((hdf k hk _ hkq).1 q)) h4 h5⟩

theorem Gs.low {lo lo' s : Nat} {α : Type} {E : List V → α → Prop} {v : V} {xs : List α} (g : Gs h lo s E v xs) (hl : lo' ≤ lo) : Gs h lo' s E v xs := by
  rcases g with g | ⟨b, cs, h0, h1, h2, h3⟩
  · exact .inl g
  · exact .inr ⟨b, cs, h0, h1, by omega, h3⟩

/-! ## The places -/

abbrev Plc := Int × Int × Int
def PlC (cs : List V) (p : Plc) : Prop := cs = [i64 p.1, i64 p.2.1, i64 p.2.2, i64 0, i64 0]
/-- What is told for a register: the parameter first, then who writes it. -/
def plcs (kf : Nat) (r : Int) (g : Bool) (ls : List Int) : List Plc := (if g = true then [(2, (kf : Int), r)] else []) ++ ls.map fun x => (1, x, 0)

theorem some_wp {n0 bB bA fr N a kf : Nat} {B : Nat → Prop} {r : Int} {P : Pg} {bp : Nat} {vr vs vi vm vf : V} {A : List (List Int)} {df : Nat → Prop} {fn : Fun} {sg : Sg} (p : Prg h n0 P bp vr vs vi vm vf) (lm : Lm P) (hf : P.funcs[kf]? = some fn) (hsg : getI P.sigs fn.sig = some sg) (gB : h.get bB = some ⟨[i64 (fr : Int), sl bA 0 N N], .own⟩)
    (lA : LL h B (sl bA 0 N N) A) (hB : ∀ b, B b → b < n) (hAN : A.length = N) (hN : N ≤ 372) (hfr : fr ≤ 4464) (hok : ∀ xs ∈ A, xs.length ≤ 1000 ∧ ∀ x ∈ xs, ∃ z : Nat, z < N ∧ x = ((fr + z : Nat) : Int)) (ha : a < N)
    (hpt : ∀ z, z < N → ∃ q, (pointsP P)[fr + z]? = some q ∧ (df z ↔ DefAt P q r)) (hF : 100000 < F) (f : Fr n h) (hn : n0 ≤ n)
    (k : ∀ n' h' v ls g bs, Ev No n h n' h' → Gs h' n 5 PlC v (plcs kf r (g && decide (r < (sg.params.length : Int))) (sortBy id ls)) → FI A N fr a df bs [] ls g N 0 → Q v n' h') : Wp (reach_Some F (pt bp 0) (pt bB 0) (i64 (kf : Int)) (i64 ((fr + a : Nat) : Int)) (i64 r)) n h Q := by
  unfold reach_Some
  have hbB := f.lt gB
  refine (Wp.ptrI f).2 ⟨by simp [oneS], ?_⟩
  have e0 := (Ev.start f).new ⟨[pt bp 0], .own⟩
  have g0 : (h.set n ⟨[pt bp 0], .own⟩).get n = some ⟨[pt bp 0], .own⟩ := H.get_set_same _ _ _
  generalize h.set n ⟨[pt bp 0], .own⟩ = h0 at e0 g0
  refine (Wp.ptrI e0.f).2 ⟨by simp [oneS], ?_⟩
  have e1 := e0.new ⟨[i64 r], .own⟩
  have g1 : (h0.set (n + 1) ⟨[i64 r], .own⟩).get n = some ⟨[pt bp 0], .own⟩ := by rw [H.get_set_ne _ _ (by omega)]; exact g0
  have g2 : (h0.set (n + 1) ⟨[i64 r], .own⟩).get (n + 1) = some ⟨[i64 r], .own⟩ := H.get_set_same _ _ _
  generalize h0.set (n + 1) ⟨[i64 r], .own⟩ = h1 at e1 g1 g2
  have p1 := p.keep (Kp.ev e1 hn)
  have lA1 : LL h1 B (sl bA 0 N N) A := lA.keep (B' := B) (fun _ h => h) (fun b hb => e1.no (hB b hb)) fun cs xs ⟨u, e2', x⟩ => ⟨u, e2', x.keep (fun _ h => h) (fun b hb => e1.no (hB b hb)) fun _ _ h => h⟩
  have hfun : ∀ (K : V → St), Wp (kFunc 45 [pt n 0, pt (n + 1) 0] K) (n + 1 + 1) h1 Q ↔ Wp (K (.func (.func 45) #[] #[pt n 0, pt (n + 1) 0])) (n + 1 + 1) h1 Q := fun K => Wp.eq rfl
  rw [hfun]
  refine Wp.cl' (find_wp p1 lm g1 g2 (by rw [e1.no hbB, gB]) lA1 (fun b hb => by have := hB b hb; omega) hAN hN hfr hok ha hpt hF e1.f (by omega) fun n2 h2 vl ls g bs e2 l2 fi => ?_)
  have le2 := e2.le
  have e12 := Ev.more e1 e2
  have p2 := p.keep (Kp.ev e12 hn)
  have hlen := fi.cnt
  have hsl : (sortBy id ls).length = ls.length := (sortBy_perm id ls).length_eq
  simp only [Wp.extractI, List.getElem?_cons_zero, List.getElem?_cons_succ, Option.some.injEq, exists_eq_left']
  refine ⟨by simp, by simp [isNF], ?_⟩
  refine Wp.jn (fun j => ∀ v n' h', Ev No n2 h2 n' h' → Gs h' n2 5 PlC v (plcs kf r (g && decide (r < (sg.params.length : Int))) []) → Wp (j vl v) n' h' Q) ?_ fun j6 hj6 => ?_
  case refine_1 =>
    intro v n' h' e' gv
    refine Wp.jn (fun j => ∀ v n' h', Ev No n2 h2 n' h' → Gs h' n2 5 PlC v (plcs kf r (g && decide (r < (sg.params.length : Int))) (sortBy id ls)) → Wp (j v) n' h' Q) ?_ fun j9 hj9 => ?_
    case refine_1 =>
      intro v n' h' e' gv
      exact Wp.retI.2 (k _ _ _ ls g bs (Ev.more e12 e') (gv.low (by omega)) fi)
    have l' : Gs h' n 1 I1 vl (sortBy id ls) := (l2.low (by omega)).keep (fun c hc => e'.no (l2.lt e2.f hc).2) fun _ _ h => h
    refine (l'.sl (by omega)).len.2 ?_
    refine Wp.loop4 (fun d x0 x1 x2 x3 n' h' => x1 = vl ∧ x2 = i64 ((sortBy id ls).length : Int) ∧ ∃ i : Nat, x3 = i64 (i : Int) ∧ i + d = (sortBy id ls).length ∧ Ev No n2 h2 n' h' ∧ Gs h' n2 5 PlC x0 (plcs kf r (g && decide (r < (sg.params.length : Int))) ((sortBy id ls).take i))) ?_ (d := (sortBy id ls).length) ⟨rfl, rfl, 0, rfl, by omega, e', gv⟩ (by omega)
    rintro d v vl _ _ n3 h3 rec ⟨rfl, rfl, i, rfl, hi, e3, g3⟩ hr
    have wi := wrap_succ (show i < 9223372036854775807 by omega)
    simp only [wpS.1, wpS.2.1, wpS.2.2.1, wpS.2.2.2.2, decide_eq_true_eq, decide_eq_false_iff_not]
    refine ⟨fun hlt => ?_, fun hge => hj9 _ _ _ e3 (by rw [List.take_of_length_le (by omega)] at g3; exact g3)⟩
    obtain ⟨y, hy, _⟩ := Sl.get (show i < (sortBy id ls).length by omega)
    have l3 : Gs h3 n 1 I1 vl (sortBy id ls) := (l2.low (by omega)).keep (fun c hc => e3.no (l2.lt e2.f hc).2) fun _ _ h => h
    obtain ⟨b4, o4, cs4, kd4, _, hix4, hb4, hk4, rfl, hcs4, _⟩ := (l3.sl (by omega)).at hy
    have c4 : cs4[o4]? = _ := hcs4 0 _ rfl
    simp only [hix4, wpM.1, hb4, ldv_live hk4, c4, Option.some.injEq, exists_eq_left']
    refine Wp.buildI.2 ⟨[i64 1, i64 y, i64 0, i64 0, i64 0], by simp [fillA, oneS], ?_⟩
    refine Gs.push (s := 5) (x := ((1, y, 0) : Plc)) (E := PlC) (es := [i64 1, i64 y, i64 0, i64 0, i64 0]) e3 g3 (by simp [fillA, rep, over, oneS]) rfl (by decide) (by simp [oneS]) rfl ⟨by simp [plcs]; split <;> simp <;> omega, by decide⟩ fun h5 v5 e5 g5 _ _ _ => ?_
    simp only [wpS, wi]
    refine hr (d - 1) _ _ _ _ _ _ (by omega) ⟨rfl, rfl, i + 1, rfl, by omega, e5, ?_⟩
    rw [List.take_add_one, hy]
    simpa [plcs] using g5
  have g22 : h2.get n = some ⟨[pt bp 0], .own⟩ := by rw [e2.no (by omega), g1]
  have g23 : h2.get (n + 1) = some ⟨[i64 r], .own⟩ := by rw [e2.no (by omega), g2]
  obtain ⟨b3, o3, cs3, kd3, _, hix3, hb3, hk3, ⟨vg, vb, rfl, sr, sb, _⟩, hcs3, _⟩ := p2.funcs.at hf
  have c3 : cs3[o3]? = _ := hcs3 0 _ rfl
  simp only [wpS.1, wpS.2.1, wpS.2.2.1, wpS.2.2.2.2, wpM.1, g22, p2.at_, ldv_own, ldv_ro, Nat.zero_add, Nat.add_zero, List.getElem?_cons_zero, List.getElem?_cons_succ, Option.some.injEq, exists_eq_left', hix3, hb3, ldv_live hk3, c3]
  refine Wp.jn (fun j => ∀ g', g' = (g && decide (r < (sg.params.length : Int))) → Wp (j (i64 (kf : Int)) (pt (n + 1) 0) vl nsl (bo g')) n2 h2 Q) ?_ fun j31 hj31 => ?_
  case refine_1 =>
    rintro g' hg'
    refine Wp.bool.2 ⟨fun hg => ?_, fun hg => hj6 _ _ _ (Ev.start e2.f) (by rw [← hg', hg]; exact Gs.nil)⟩
    simp only [wpM.1, g23, ldv_own, List.getElem?_cons_zero, Option.some.injEq, exists_eq_left']
    refine Wp.buildI.2 ⟨[i64 2, i64 (kf : Int), i64 r, i64 0, i64 0], by simp [fillA, oneS], ?_⟩
    refine Gs.push (s := 5) (x := ((2, (kf : Int), r) : Plc)) (xs := []) (E := PlC) (es := [i64 2, i64 (kf : Int), i64 r, i64 0, i64 0]) (Ev.start e2.f) Gs.nil (by simp [fillA, rep, over, oneS]) rfl (by decide) (by simp [oneS]) rfl ⟨by simp, by decide⟩ fun h5 v5 e5 g5 _ _ _ => ?_
    exact hj6 _ _ _ e5 (by rw [← hg', hg]; exact g5)
  obtain ⟨ks, hks, hks2⟩ := getI_some hsg
  obtain ⟨b5, o5, cs5, kd5, _, hix5, hb5, hk5, ⟨vp, rfl, sp, _⟩, hcs5, _⟩ := p2.sigs.at hks2
  have c5 : cs5[o5]? = _ := hcs5 0 _ rfl
  refine Wp.bool.2 ⟨fun hg => ?_, fun hg => hj31 false (by rw [hg]; rfl)⟩
  have hkl := (List.getElem?_eq_some_iff.1 hks2).1
  rw [hks]
  simp only [wpS.1, wpS.2.1, wpS.2.2.1, wpS.2.2.2.2, wpM.1, g22, g23, p2.at_, ldv_own, ldv_ro, Nat.zero_add, Nat.add_zero, List.getElem?_cons_zero, List.getElem?_cons_succ, Option.some.injEq, exists_eq_left', decide_eq_true_eq, decide_eq_false_iff_not, p2.sigs.len, hix5, hb5, ldv_live hk5, c5, sp.len]
  refine ⟨fun _ => ⟨fun _ => hj31 _ (by rw [hg, Bool.true_and]), fun h => absurd h (by omega)⟩, fun h => absurd h (by omega)⟩

/-- What is told covers who may have written. -/
theorem plcs_all {P : Pg} {kf a np : Nat} {r : Int} {fn : Fun} {A : List (List Int)} {bs : List Bool} {ls : List Int} {g : Bool} {q : Pt} (hf : P.funcs[kf]? = some fn) (hq : (pointsP P)[szf (P.funcs.take kf) + a]? = some q) (ha : a < szs fn.blocks) (hA : A.length = szs fn.blocks) (am : AhM P (szf (P.funcs.take kf)) A (szs fn.blocks) 0)
    (fi : FI A (szs fn.blocks) (szf (P.funcs.take kf)) a (fun z => ∃ q, (pointsP P)[szf (P.funcs.take kf) + z]? = some q ∧ DefAt P q r) bs [] ls g (szs fn.blocks) 0) :
    (∀ d (nb : Nat), BackP P r q d → DefAt P d r → (pointsP P)[nb]? = some d → (((1 : Int), (nb : Int), (0 : Int)) : Plc) ∈ plcs kf r (g && decide (r < (np : Int))) (sortBy id ls)) ∧ (Fwd P r (kf : Int) q → r < (np : Int) → (((2 : Int), (kf : Int), r) : Plc) ∈ plcs kf r (g && decide (r < (np : Int))) (sortBy id ls)) := by
  have hdf : ∀ z, z < szs fn.blocks → ∀ q, (pointsP P)[szf (P.funcs.take kf) + z]? = some q → ((∃ q, (pointsP P)[szf (P.funcs.take kf) + z]? = some q ∧ DefAt P q r) ↔ DefAt P q r) := fun z _ q hz => ⟨fun ⟨q', h1, h2⟩ => by rw [hz] at h1; cases h1; exact h2, fun h => ⟨q, hz, h⟩⟩
  refine ⟨fun d nb hb hd hnb => ?_, fun w hr => ?_⟩
  · obtain ⟨i, hi, hpi, hbi⟩ := hb.num hf hA am hdf hq ha
    have hni : nb = szf (P.funcs.take kf) + i := points_inj hnb hpi
    have hm : (nb : Int) ∈ ls := (fi.ls_ _).2 ⟨i, by rw [hni], (fi.all hA i).2 hbi, d, hpi, hd⟩
    unfold plcs
    exact List.mem_append_right _ (List.mem_map.2 ⟨_, (sortBy_perm id ls).mem_iff.2 hm, rfl⟩)
  · have hg : g = true := by
      have hfirst : (pointsP P)[szf (P.funcs.take kf) + 0]? = some ⟨(kf : Int), 0, 0⟩ := by
        cases hb : fn.blocks with
        | nil => rw [hb] at ha; simp [szs] at ha
        | cons bl0 r0 =>
          have := points_at.2 ⟨kf, 0, 0, fn, bl0, rfl, hf, by rw [hb]; rfl, Nat.zero_le _, rfl⟩
          simpa [szs] using this
      rw [fi.g_]
      rcases w.back with hs | ⟨h1, h2⟩
      · left
        subst hs
        have := points_inj hq hfirst
        omega
      · right
        obtain ⟨i, hi, hpi, hbi⟩ := h1.num hf hA am hdf hq ha
        have hi0 : i = 0 := by have := points_inj hpi hfirst; omega
        subst hi0
        exact ⟨(fi.all hA 0).2 hbi, fun h => h2 ((hdf 0 (by omega) _ hfirst).1 h)⟩
    unfold plcs
    rw [hg, Bool.true_and, decide_eq_true hr]
    simp

theorem defs_wp {n0 a kf : Nat} {r : Int} {P : Pg} {bp : Nat} {vr vs vi vm vf : V} {q : Pt} {fn : Fun} {sg : Sg} (p : Prg h n0 P bp vr vs vi vm vf) (lm : Lm P) (nm : Nm P) (hq : (pointsP P)[a]? = some q) (hqf : q.f = (kf : Int)) (hf : P.funcs[kf]? = some fn) (hsg : getI P.sigs fn.sig = some sg) (hr : 0 ≤ r ∧ r < (fn.regs.length : Int)) (hF : 100000 < F) (f : Fr n h) (hn : n0 ≤ n)
    (k : ∀ n' h' v L, Ev No n h n' h' → Gs h' n 5 PlC v L → L.length ≤ 400 → (∀ d (nb : Nat), BackP P r q d → DefAt P d r → (pointsP P)[nb]? = some d → (((1 : Int), (nb : Int), (0 : Int)) : Plc) ∈ L) → (Fwd P r (kf : Int) q → r < (sg.params.length : Int) → (((2 : Int), (kf : Int), r) : Plc) ∈ L) → Q v n' h') : Wp (reach_Defs F (pt bp 0) (i64 (a : Int)) (i64 r)) n h Q := by
  unfold reach_Defs
  have lx := lm.fun_ fn (List.mem_of_getElem? hf)
  have lxb := lx.blocks
  have lpt : szf P.funcs ≤ 4464 := by
    have := lm.points
    unfold pointsP at this
    rwa [ptsFs_len] at this
  have hfrN := szf_le P.funcs (kf + 1)
  rw [szf_take hf] at hfrN
  have hN372 : szs fn.blocks ≤ 372 := by
    have h2 := sum_le (f := fun b : Blo => b.code.length + 1) (c := 31) fn.blocks fun b hb => by have := (lx.each b hb).code; omega
    have : fn.blocks.length * 31 ≤ 12 * 31 := Nat.mul_le_mul_right _ lxb
    unfold szs; omega
  have hafr := (fun_points hf hq).1 hqf
  obtain ⟨a, rfl⟩ : ∃ i, a = szf (P.funcs.take kf) + i := ⟨a - szf (P.funcs.take kf), by omega⟩
  refine cl_point p lm hq (by omega) f hn fun n1 h1 e1 => ?_
  have le1 := e1.le
  simp only [Wp.extractI, List.getElem?_cons_zero, List.getElem?_cons_succ, Option.some.injEq, exists_eq_left']
  refine ⟨by simp [isNF], by simp [isNF], ?_⟩
  refine Wp.put (cs := [i64 q.f, i64 q.b, i64 q.i]) e1.f (by simp [oneS]) (by simp [oneS]) rfl rfl ?_
  have e2 := ((e1.new ⟨[i64 0, i64 0, i64 0], .own⟩).set (b := n1) ⟨[i64 q.f, i64 q.b, i64 q.i], .own⟩ (by omega) (by omega))
  have g2 : ((h1.set n1 ⟨[i64 0, i64 0, i64 0], .own⟩).set n1 ⟨[i64 q.f, i64 q.b, i64 q.i], .own⟩).get n1 = some ⟨[i64 q.f, i64 q.b, i64 q.i], .own⟩ := H.get_set_same _ _ _
  generalize (h1.set n1 ⟨[i64 0, i64 0, i64 0], .own⟩).set n1 ⟨[i64 q.f, i64 q.b, i64 q.i], .own⟩ = h2 at e2 g2
  have p2 := p.keep (Kp.ev e2 hn)
  refine Wp.jn (fun j => Wp (j (pt bp 0) (i64 ((szf (P.funcs.take kf) + a : Nat) : Int)) (i64 r) (pt n1 0) (bo false)) (n1 + 1) h2 Q) ?_ fun j5 hj5 => ?_
  case refine_2 =>
    obtain ⟨b3, o3, cs3, kd3, _, hix3, hb3, hk3, ⟨vg, vb, rfl, sr, sb, _⟩, hcs3, _⟩ := p2.funcs.at hf
    have c3 : cs3[o3 + 1]? = _ := hcs3 1 _ rfl
    refine (Wp.eq st_not).2 (Wp.bool.2 ⟨fun h => absurd h (by decide), fun _ => ?_⟩)
    simp only [wpS.1, wpS.2.1, wpS.2.2.1, wpS.2.2.2.2, decide_eq_true_eq, decide_eq_false_iff_not]
    refine ⟨fun h => absurd h (by omega), fun _ => ?_⟩
    simp only [wpS.1, wpS.2.1, wpS.2.2.1, wpS.2.2.2.2, wpM.1, g2, p2.at_, ldv_own, ldv_ro, Nat.zero_add, Nat.add_zero, List.getElem?_cons_zero, List.getElem?_cons_succ, Option.some.injEq, exists_eq_left', hqf, hix3, hb3, ldv_live hk3, c3, sr.len]
    rw [show decide (r ≥ (fn.regs.length : Int)) = false from decide_eq_false (by omega)]
    exact hj5
  refine Wp.bool.2 ⟨fun h => absurd h (by decide), fun _ => ?_⟩
  simp only [wpS.1, wpS.2.1, wpS.2.2.1, wpS.2.2.2.2, wpM.1, g2, ldv_own, Nat.zero_add, Nat.add_zero, List.getElem?_cons_zero, List.getElem?_cons_succ, Option.some.injEq, exists_eq_left', hqf]
  refine Wp.cl' (of_wp p2 lm nm hf hF e2.f (by omega) fun n3 h3 bB bA A e3 gB lB hB lA hA hx am => ?_)
  have le3 := e3.le
  have e23 := Ev.more e2 e3
  refine Wp.chkI.2 ?_
  have g3 : h3.get n1 = some ⟨[i64 q.f, i64 q.b, i64 q.i], .own⟩ := by rw [e3.no (by omega), g2]
  rw [g3]
  refine ⟨by simp [hqf], by simp [veqS, hqf], ?_⟩
  have hfi := fun z (hz : z < szs fn.blocks) => fun_some hf hz
  refine Wp.cl' (some_wp (df := fun z => ∃ q, (pointsP P)[szf (P.funcs.take kf) + z]? = some q ∧ DefAt P q r) (p.keep (Kp.ev e23 hn)) lm hf hsg gB lA (fun b hb => hb.2) hA hN372 (by omega) (fun xs hxs => ⟨hx xs hxs, fun x hxx => ?_⟩) (by omega) (fun z hz => ?_) hF e3.f (by omega) fun n4 h4 v ls g bs e4 g4 fi => ?_)
  · obtain ⟨j, hj⟩ := List.getElem?_of_mem hxs
    obtain ⟨k', q', h1, h2, h3 | h3⟩ := (am j xs hj x).1 hxx
    · exact ⟨k', h3.1, h1⟩
    · have := h3.2; simp at this
  · obtain ⟨q', hq', _⟩ := hfi z hz
    exact ⟨q', hq', fun ⟨q'', h1, h2⟩ => by rw [hq'] at h1; cases h1; exact h2, fun h => ⟨q', hq', h⟩⟩
  · have hc := fi.cnt
    have hsl : (sortBy id ls).length = ls.length := (sortBy_perm id ls).length_eq
    obtain ⟨k1, k2⟩ := plcs_all (np := sg.params.length) hf hq (by omega) hA am fi
    exact Wp.retI.2 (k _ _ _ _ (Ev.more e23 e4) (g4.low (by have := e2.le; omega)) (by unfold plcs; simp; split <;> simp <;> omega) k1 k2)
end Go.Fn
end
section
set_option linter.unusedVariables false
namespace Go.Fn
open Go Go.Fw

variable {F n : Nat} {h : H} {Q : Post} {K : V → St}

/-! ## Is it told? -/

def Told (L : List Plc) (d : Int) : Prop := ∃ x ∈ L, d = 0 ∧ x.1 = 2 ∨ 0 < d ∧ x.1 = 1 ∧ x.2.1 = d - 1
theorem there_wp {B : Nat → Prop} {v : V} {L : List Plc} {d : Int} (s : Sl h B 5 PlC v L) (hl : L.length ≤ 400) (hd : 0 ≤ d ∧ d < 1000000) (ht : Told L d) (hF : 1000 < F) (q : Q (bo true) n h) : Wp (L21_there F v (i64 d)) n h Q := by
  unfold L21_there
  obtain ⟨x, hx, hm⟩ := ht
  obtain ⟨j, hj⟩ := List.getElem?_of_mem hx
  have hjl := (List.getElem?_eq_some_iff.1 hj).1
  refine Wp.jn (fun _ => True) trivial fun j0 _ => ?_
  refine Wp.loop3 (fun dd x0 x1 x2 n' h' => n' = n ∧ h' = h ∧ x0 = v ∧ x1 = i64 d ∧ ∃ i : Nat, x2 = i64 (i : Int) ∧ i + dd = L.length ∧ i ≤ j) ?_ (d := L.length) ⟨rfl, rfl, rfl, rfl, 0, rfl, by omega, by omega⟩ (by omega)
  rintro dd v _ _ n h rec ⟨rfl, rfl, rfl, rfl, i, rfl, hi, hij⟩ hr
  have wi := wrap_succ (show i < 9223372036854775807 by omega)
  simp only [wpS.1, wpS.2.1, wpS.2.2.1, wpS.2.2.2.2, s.len, decide_eq_true_eq, decide_eq_false_iff_not]
  refine ⟨fun hlt => ?_, fun hge => absurd hge (by omega)⟩
  refine Wp.jn (fun jj => ∀ b, (b = false → i ≠ j) → Wp (jj v (i64 d) (i64 (i : Int)) (bo b)) n h Q) ?_ fun j7 hj7 => ?_
  case refine_1 =>
    intro b hb
    refine Wp.bool.2 ⟨fun _ => Wp.retI.2 q, fun hf => ?_⟩
    have := hb hf
    simp only [wpS, wi]
    exact hr (dd - 1) _ _ _ _ _ (by omega) ⟨rfl, rfl, rfl, rfl, i + 1, rfl, by omega, by omega⟩
  obtain ⟨y, hy, _⟩ := Sl.get (show i < L.length by omega)
  obtain ⟨b4, o4, cs4, kd4, _, hix4, hb4, hk4, rfl, hcs4, _⟩ := s.at hy
  have c0 : cs4[o4]? = _ := hcs4 0 _ rfl
  have c1 : cs4[o4 + 1]? = _ := hcs4 1 _ rfl
  have hyx : i = j → y = x := fun e => by subst e; rw [hj] at hy; cases hy; rfl
  have wd : IntKind.i64.wrap (d - 1) = d - 1 := wrap64 (by omega)
  simp only [wpS.1, wpS.2.1, wpS.2.2.1, wpS.2.2.2.2, hix4, wpM.1, hb4, ldv_live hk4, c0, c1, Nat.zero_add, Nat.add_zero, Option.some.injEq, exists_eq_left', decide_eq_true_eq, decide_eq_false_iff_not, wd]
  refine ⟨fun h0 => ⟨fun h2 => hj7 true (fun h => absurd h (by decide)), fun h2 => ⟨fun hp => absurd hp (by omega), fun _ => hj7 false fun _ e => ?_⟩⟩, fun h0 => ⟨fun hp => ⟨fun h1 => hj7 _ fun hf e => ?_, fun h1 => hj7 false fun _ e => ?_⟩, fun hp => absurd hp (by omega)⟩⟩
  · obtain rfl := hyx e
    rcases hm with hm | hm
    · exact h2 hm.2
    · omega
  · obtain rfl := hyx e
    rcases hm with hm | hm
    · exact h0 hm.1
    · have := of_decide_eq_false hf
      exact this hm.2.2
  · obtain rfl := hyx e
    rcases hm with hm | hm
    · exact h0 hm.1
    · exact h1 hm.2.1

/-! ## The list of rows -/

structure LsAt (ρ : Rl) (h : H) (b c : Nat) (cs : List V) (kd : Kind) (L : List (List Int)) : Prop where
  role : ρ b = .no
  get : h.get b = some ⟨cs, kd⟩
  one : cs.all one = true
  kind : kd = .grow ∧ c = U + 16 ∨ kd = .own ∧ c = L.length ∧ c < U
  len : L.length * 16 ≤ cs.length
  own : kd = .own → cs.length = L.length * 16
  mul : ∃ m, cs.length = m * 16
  own1 : kd = .own → L.length = 1
  n16 : ∀ row ∈ L, row.length = 16
  each : ∀ (i r : Nat) row v, L[i]? = some row → row[r]? = some v → cs[i * 16 + r]? = some (i64 v)

theorem LsAt.keep {ρ ρ' : Rl} {h' : H} {b c : Nat} {cs : List V} {kd : Kind} {L : List (List Int)} (a : LsAt ρ h b c cs kd L) (hr : ρ' b = ρ b) (hg : h'.get b = h.get b) : LsAt ρ' h' b c cs kd L :=
  ⟨hr.trans a.role, hg.trans a.get, a.one, a.kind, a.len, a.own, a.mul, a.own1, a.n16, a.each⟩
theorem LsAt.live {ρ : Rl} {b c : Nat} {cs : List V} {kd : Kind} {L : List (List Int)} (a : LsAt ρ h b c cs kd L) : kd ≠ .dead := by
  rcases a.kind with ⟨rfl, _⟩ | ⟨rfl, _⟩ <;> decide
theorem LsAt.w {ρ : Rl} {b c : Nat} {cs : List V} {kd : Kind} {L : List (List Int)} (a : LsAt ρ h b c cs kd L) : kd = .own ∨ kd = .grow := by
  rcases a.kind with ⟨rfl, _⟩ | ⟨rfl, _⟩ <;> simp
theorem LsAt.in16 {ρ : Rl} {b c i r : Nat} {cs : List V} {kd : Kind} {L : List (List Int)} (a : LsAt ρ h b c cs kd L) (hi : i < L.length) (hr : r < 16) : i * 16 + r < cs.length := by
  have := a.len
  have : i * 16 + 16 ≤ L.length * 16 := by have := Nat.mul_le_mul_right 16 hi; rw [Nat.succ_mul] at this; exact this
  omega
/-- A register's writer is noted. -/
theorem LsAt.put {ρ : Rl} {h' : H} {b c i r : Nat} {v : Int} {cs : List V} {kd : Kind} {L : List (List Int)} {row : List Int} (a : LsAt ρ h b c cs kd L) (hrow : L[i]? = some row) (hr : r < 16) (hg : h'.get b = some ⟨cs.set (i * 16 + r) (i64 v), kd⟩) : LsAt ρ h' b c (cs.set (i * 16 + r) (i64 v)) kd (L.set i (row.set r v)) := by
  have hi := (List.getElem?_eq_some_iff.1 hrow).1
  have hin := a.in16 hi hr
  have h16 := a.n16 row (List.mem_of_getElem? hrow)
  refine ⟨a.role, hg, set_all a.one rfl, by simpa using a.kind, by simpa using a.len, by simpa using a.own, by simpa using a.mul, by simpa using a.own1, fun y hy => ?_, fun j s y w hj hs => ?_⟩
  · rcases List.mem_or_eq_of_mem_set hy with hy | rfl
    · exact a.n16 y hy
    · simp [h16]
  · by_cases ej : j = i
    · subst ej
      rw [List.getElem?_set_self hi] at hj; cases hj
      by_cases es : s = r
      · subst es
        rw [List.getElem?_set_self (by omega)] at hs; cases hs
        rw [List.getElem?_set_self hin]
      · rw [List.getElem?_set_ne (fun q => es q.symm)] at hs
        rw [List.getElem?_set_ne (by omega)]
        exact a.each j s row w hrow hs
    · rw [List.getElem?_set_ne (fun q => ej q.symm)] at hj
      have hs16 : s < 16 := by
        have := (List.getElem?_eq_some_iff.1 hs).1
        have := a.n16 y (List.mem_of_getElem? hj)
        omega
      rw [List.getElem?_set_ne (by omega)]
      exact a.each j s y w hj hs
/-- The last ones go. -/
theorem LsAt.cut {ρ : Rl} {b c k : Nat} {cs : List V} {kd : Kind} {L : List (List Int)} (a : LsAt ρ h b c cs kd L) (hk : k ≤ L.length) (h0 : 0 < k) : LsAt ρ h b c cs kd (L.take k) := by
  by_cases hw : kd = .own
  · have := a.own1 hw
    rw [List.take_of_length_le (by omega)]; exact a
  · have hg : kd = .grow ∧ c = U + 16 := a.kind.resolve_right fun q => hw q.1
    refine ⟨a.role, a.get, a.one, .inl hg, ?_, fun q => absurd q hw, a.mul, fun q => absurd q hw, fun y hy => a.n16 y (List.mem_of_mem_take hy), fun i r y v hi hr => a.each i r y v ?_ hr⟩
    · have := a.len
      have h2 : (L.take k).length * 16 ≤ L.length * 16 := Nat.mul_le_mul_right 16 (by rw [List.length_take]; omega)
      omega
    · rw [List.getElem?_take] at hi
      split at hi
      · exact hi
      · cases hi
abbrev z16 : List V := List.replicate 16 (i64 0)
theorem z16_get {r : Nat} {v : Int} (h : (List.replicate 16 (0 : Int))[r]? = some v) : r < 16 ∧ z16[r]? = some (i64 v) := by
  rw [List.getElem?_replicate] at h
  split at h
  · cases h
    rename_i hr
    exact ⟨hr, by rw [List.getElem?_replicate, if_pos hr]⟩
  · cases h
theorem last_row {L : List (List Int)} {row y : List Int} (h : (L ++ [row])[L.length]? = some y) : y = row := by
  rw [List.getElem?_append_right (Nat.le_refl _), Nat.sub_self] at h
  exact (Option.some.inj h).symm
theorem LsAt.pushA {ρ : Rl} {b c b' : Nat} {cs : List V} {kd : Kind} {L : List (List Int)} {h' : H} (a : LsAt ρ h b c cs kd L) (hl : cs.length = L.length * 16) (hg : h'.get b' = some ⟨cs ++ z16, .grow⟩) (hr : ρ b' = .no) : LsAt ρ h' b' (U + 16) (cs ++ z16) .grow (L ++ [List.replicate 16 0]) := by
  refine ⟨hr, hg, by rw [List.all_append, a.one]; simp [oneS], .inl ⟨rfl, rfl⟩, by simp [hl, Nat.add_mul], fun q => (by cases q), ⟨L.length + 1, by simp [hl, Nat.add_mul]⟩, fun q => (by cases q), fun y hy => ?_, fun i r y v hi hr => ?_⟩
  · rcases List.mem_append.1 hy with hy | hy
    · exact a.n16 y hy
    · simp at hy; subst hy; simp
  · rcases Nat.lt_or_ge i L.length with h1 | h1
    · rw [List.getElem?_append_left h1] at hi
      have := a.each i r y v hi hr
      rw [List.getElem?_append_left (List.getElem?_eq_some_iff.1 this).1]; exact this
    · have hlt := (List.getElem?_eq_some_iff.1 hi).1
      have hi2 : i = L.length := by simp at hlt; omega
      subst hi2
      rw [last_row hi] at hr
      rw [List.getElem?_append_right (by omega), hl, Nat.add_sub_cancel_left]
      exact (z16_get hr).2
theorem LsAt.pushB {ρ : Rl} {b c : Nat} {cs : List V} {kd : Kind} {L : List (List Int)} {h' : H} (a : LsAt ρ h b c cs kd L) (hl : (L.length + 1) * 16 ≤ cs.length) (hg : h'.get b = some ⟨over cs (L.length * 16) z16, .grow⟩) : LsAt ρ h' b (U + 16) (over cs (L.length * 16) z16) .grow (L ++ [List.replicate 16 0]) := by
  have hz : z16.length = 16 := by simp
  have ho : L.length * 16 + z16.length ≤ cs.length := by rw [hz]; rw [Nat.add_mul, Nat.one_mul] at hl; exact hl
  have hlen : (over cs (L.length * 16) z16).length = cs.length := by unfold over; simp; omega
  refine ⟨a.role, hg, ?_, .inl ⟨rfl, rfl⟩, by rw [hlen]; simpa using hl, fun q => (by cases q), by rw [hlen]; exact a.mul, fun q => (by cases q), fun y hy => ?_, fun i r y v hi hr => ?_⟩
  · exact over_all a.one (by simp [oneS])
  · rcases List.mem_append.1 hy with hy | hy
    · exact a.n16 y hy
    · simp at hy; subst hy; simp
  · rcases Nat.lt_or_ge i L.length with h1 | h1
    · rw [List.getElem?_append_left h1] at hi
      have := a.each i r y v hi hr
      have hr16 : r < 16 := by
        have := (List.getElem?_eq_some_iff.1 hr).1
        have := a.n16 y (List.mem_of_getElem? hi)
        omega
      rw [over_out ho (.inl (by have := Nat.mul_le_mul_right 16 h1; rw [Nat.succ_mul] at this; omega))]; exact this
    · have hlt := (List.getElem?_eq_some_iff.1 hi).1
      have hi2 : i = L.length := by simp at hlt; omega
      subst hi2
      rw [last_row hi] at hr
      rw [over_in ho (by rw [hz]; exact (z16_get hr).1)]
      exact (z16_get hr).2

/-! ## What holds -/

def LsOk (P : Pg) (q : Pt) (r : Nat) (v : Int) : Prop := v = 0 ∧ Fwd P (r : Int) q.f q ∨ ∃ (d : Pt) (nb : Nat), v = (nb : Int) + 1 ∧ (pointsP P)[nb]? = some d ∧ DefAt P d (r : Int) ∧ BackP P (r : Int) q d
theorem LsOk.on {P : Pg} {q q' : Pt} {r : Nat} {v : Int} (w : LsOk P q r v) (hn : ¬ DefAt P q (r : Int)) (he : q' ∈ nextP P q) : LsOk P q' r v := by
  rcases w with ⟨h0, h1⟩ | ⟨d, nb, h0, h1, h2, h3⟩
  · refine .inl ⟨h0, ?_⟩
    have := (nextP_ok he).2.2
    rw [this]; exact .step h1 hn he
  · exact .inr ⟨d, nb, h0, h1, h2, h3.on hn he⟩
theorem LsOk.def_ {P : Pg} {q q' : Pt} {r a : Nat} (ha : (pointsP P)[a]? = some q) (hd : DefAt P q (r : Int)) (he : q' ∈ nextP P q) : LsOk P q' r ((a : Int) + 1) := .inr ⟨q, a, rfl, ha, hd, .base he⟩
structure LsP (P : Pg) (fs : List Frm) (L : List (List Int)) : Prop where
  len : L.length = fs.length
  ok : ∀ (i : Nat) x row, fs[i]? = some x → L[i]? = some row → ∀ (r : Nat) v, row[r]? = some v → LsOk P x.at_ r v
end Go.Fn
end
section
set_option linter.unusedVariables false
namespace Go.Fn
open Go Go.Fw

variable {F n : Nat} {h : H} {Q : Post} {K : V → St}

theorem push_wp {ρ : Rl} {b c : Nat} {cs : List V} {kd : Kind} {L : List (List Int)} (a : LsAt ρ h b c cs kd L) (f : Fr n h) (hL : L.length < 1000) (hf : ∀ b, n ≤ b → ρ b = .no)
    (k : ∀ n' h' b' c' cs' kd', Fr n' h' → n ≤ n' → (∀ x, x < n → x ≠ b → h'.get x = h.get x) → LsAt ρ h' b' c' cs' kd' (L ++ [List.replicate 16 0]) → (b' = b ∨ n ≤ b') → Wp (K (sl b' 0 (L.length + 1) c')) n' h' Q) :
    Wp (kBuild [(i64 0), (i64 0), (i64 0), (i64 0), (i64 0), (i64 0), (i64 0), (i64 0), (i64 0), (i64 0), (i64 0), (i64 0), (i64 0), (i64 0), (i64 0), (i64 0)] [] fun v85 => kBuildSlice 1 (rep 1 [(i64 0), (i64 0), (i64 0), (i64 0), (i64 0), (i64 0), (i64 0), (i64 0), (i64 0), (i64 0), (i64 0), (i64 0), (i64 0), (i64 0), (i64 0), (i64 0)]) [⟨0, 16, true, v85⟩] fun v86 => kApp 16 128 (sl b 0 L.length c) v86 K) n h Q := by
  have hbn := f.lt a.get
  refine Wp.buildI.2 ⟨z16, rfl, ?_⟩
  refine (Wp.buildSliceI f).2 ⟨z16, by simp [fillA, rep, over, oneS], by simp [oneS], ?_⟩
  have e1 := (Ev.start f).new ⟨z16, .own⟩
  have hc : Cel (h.set n ⟨z16, .own⟩) 16 (sl n 0 1 1) 1 z16 := ⟨by simp, .inr ⟨n, 0, 1, rfl, fun _ => ⟨z16, .own, H.get_set_same _ _ _, by decide, by simp, rfl⟩⟩⟩
  have g1 : (h.set n ⟨z16, .own⟩).get b = some ⟨cs, kd⟩ := by rw [H.get_set_ne _ _ (by omega)]; exact a.get
  refine Wp.appStack g1 a.kind a.len a.mul a.own (by decide) hc e1.f a.one (by simp [oneS]) ⟨by omega, by decide⟩ (fun h3 f3 g3 hl3 k3 => ?_) (fun hkd hroom => ?_)
  · exact k _ _ (n + 1) (U + 16) _ .grow f3 (by omega) (fun x hx hxb => by rw [k3 x (by omega) hxb, H.get_set_ne _ _ (by omega)]) (a.pushA hl3 g3 (hf _ (by omega))) (.inr (by omega))
  · exact k _ _ b (U + 16) _ .grow (e1.f.set _ (by omega)) (by omega) (fun x hx hxb => by rw [H.get_set_ne _ _ hxb, H.get_set_ne _ _ (by omega)]) (a.pushB hroom (H.get_set_same _ _ _)) (.inl rfl)

/-- What holds at the head of each round. -/
structure LpI (P : Pg) (n0 : Nat) (h0 : H) (bp bM : Nat) (ρ : Rl) (n : Nat) (h : H) (M : Mc) (b c : Nat) (cs : List V) (kd : Kind) (L : List (List Int)) : Prop where
  f : Fr n h
  hn : n0 ≤ n
  kp : Kp n0 h0 h
  no : ∀ b, b < n0 → ρ b = .no
  fresh : ∀ b, n ≤ b → ρ b = .no
  ma : MA ρ h bp bM M
  inv : Inv P M
  end_ : M.ended = 0
  ls : LsAt ρ h b c cs kd L
  hb : n0 ≤ b
  lp : LsP P M.fs L

theorem MA.ev {ρ : Rl} {bp bM n' : Nat} {h' : H} {M : Mc} (ma : MA ρ h bp bM M) (f : Fr n h) (e : Ev No n h n' h') : MA ρ h' bp bM M := by
  obtain ⟨bF, cF, cs, kd, vH, vO, m⟩ := ma
  exact ⟨bF, cF, cs, kd, vH, vO, m.keep f fun b hb _ => ⟨rfl, e.no hb⟩⟩
theorem LpI.ev {P : Pg} {n0 n' : Nat} {h0 h' : H} {bp bM : Nat} {ρ : Rl} {M : Mc} {b c : Nat} {cs : List V} {kd : Kind} {L : List (List Int)} (v : LpI P n0 h0 bp bM ρ n h M b c cs kd L) (e : Ev No n h n' h') : LpI P n0 h0 bp bM ρ n' h' M b c cs kd L :=
  ⟨e.f, Nat.le_trans v.hn e.le, v.kp.trans (Kp.ev e v.hn), v.no, fun b hb => v.fresh b (Nat.le_trans e.le hb), v.ma.ev v.f e, v.inv, v.end_, v.ls.keep rfl (e.no (v.f.lt v.ls.get)), v.hb, v.lp⟩
theorem LpI.low {P : Pg} {n0 : Nat} {h0 : H} {bp bM : Nat} {ρ : Rl} {M : Mc} {b c : Nat} {cs : List V} {kd : Kind} {L : List (List Int)} (v : LpI P n0 h0 bp bM ρ n h M b c cs kd L) : ∃ low x row, M.fs = low ++ [x] ∧ low.length < 60 ∧ L.length = low.length + 1 ∧ L[low.length]? = some row := by
  have h1 := v.inv.some_
  have h2 := v.inv.flen
  have e : M.fs = M.fs.dropLast ++ [M.fs.getLast h1] := (List.dropLast_concat_getLast h1).symm
  have hl : M.fs.length = M.fs.dropLast.length + 1 := by have := congrArg List.length e; simpa using this
  have hL := v.lp.len
  exact ⟨M.fs.dropLast, M.fs.getLast h1, L[M.fs.dropLast.length]'(by omega), e, by omega, by omega, List.getElem?_eq_getElem _⟩
theorem reads_in {P : Pg} (rt : Rt P) {q : Pt} {fn : Fun} (hfn : getI P.funcs q.f = some fn) {r : Int} (hr : r ∈ readsP P q) : 0 ≤ r ∧ r < (fn.regs.length : Int) ∧ fn.regs.length ≤ 16 := by
  have h16 := (rt.lm.fun_ fn (getI_mem hfn)).regs
  suffices h : 0 ≤ r ∧ r < (fn.regs.length : Int) from ⟨h.1, h.2, h16⟩
  unfold readsP at hr
  split at hr
  · rename_i x hx
    obtain ⟨fn', bl, h1, h2, h3⟩ := codeP_some hx
    rw [hfn] at h1; cases h1
    exact ((rt.nm.funcs fn (getI_mem hfn)).code bl (getI_mem h2)).1 x (getI_mem h3) |>.2.2.1 r hr
  · split at hr
    · rename_i bl hbl
      unfold bloP at hbl
      rw [hfn, Option.bind_some] at hbl
      have he := ((rt.nm.funcs fn (getI_mem hfn)).code bl (getI_mem hbl)).2
      split at hr
      · rename_i hc
        rw [List.mem_singleton] at hr
        subst hr
        rcases he with h1 | ⟨_, h1, _⟩ | ⟨_, h1⟩
        · omega
        · exact h1
        · exact h1
      · cases hr
    · cases hr

/-- All that is read is told. -/
theorem readloop {n0 bn a : Nat} {x2 : V} {h0 : H} {P : Pg} {bp bM b c i : Nat} {ρ : Rl} {M : Mc} {cs : List V} {kd : Kind} {L : List (List Int)} {low : List Frm} {x : Frm} {row : List Int} {w vr vs vi vm vf : V} {j44 : V → V → V → V → V → V → V → St} (v : LpI P n0 h0 bp bM ρ n h M b c cs kd L) (p : Prg h n0 P bp vr vs vi vm vf) (rt : Rt P) (hM : M.fs = low ++ [x]) (hl : low.length < 60) (hL : L.length = low.length + 1) (hrow : L[low.length]? = some row) (ha : (pointsP P)[a]? = some x.at_)
    (sw : SlI h n0 n w (readsP P x.at_)) (hF : 100000 < F) (q : ∀ n' h', Q (bo true) n' h')
    (hj : ∀ n' h', Ev No n h n' h' → Wp (j44 (pt bp 0) x2 (pt bM 0) (sl b 0 L.length c) (i64 (i : Int)) (i64 (a : Int)) (pt bn 0)) n' h' Q) :
    Wp (lpK (α := V → V → V → V → V → V → V → V → V → St) (fun _ _ _ _ _ _ _ _ _ => fail) (fun r103 v104 v105 v106 v107 v108 v109 v110 v111 v112 => kLen v111 fun v113 => kLss v112 v113 fun v114 => onB v114 (kIndexAddr 1 v111 v112 fun v115 => kLoad v115 fun v116 => kLen v107 fun v117 => kSub v117 (i64 1) fun v118 => kIndexAddr 1 v111 v112 fun v119 => kLoad v119 fun v120 => kIndexAddr 16 v107 v118 fun v121 => kIndexAddrA 16 1 v121 v120 fun v122 => kLoad v122 fun v123 => cl (reach_Defs F v104 v109 v116) fun v124 => kChk false v119 v120 (kChk false v122 v123 (cl (L21_there F v124 v123) fun v125 => kNot v125 fun v126 => onB v126 (ret (bo false)) (kAdd v112 (i64 1) fun v127 => r103 v104 v105 v106 v107 v108 v109 v110 v111 v127)))) (j44 v104 v105 v106 v107 v108 v109 v110)) F (pt bp 0) x2 (pt bM 0) (sl b 0 L.length c) (i64 (i : Int)) (i64 (a : Int)) (pt bn 0) w (i64 0)) n h Q := by
  have hlen := readsP_len rt.lm x.at_
  refine Wp.loop9 (fun d y0 y1 y2 y3 y4 y5 y6 y7 y8 n' h' => y0 = pt bp 0 ∧ y1 = x2 ∧ y2 = pt bM 0 ∧ y3 = sl b 0 L.length c ∧ y4 = i64 (i : Int) ∧ y5 = i64 (a : Int) ∧ y6 = pt bn 0 ∧ y7 = w ∧ ∃ m : Nat, y8 = i64 (m : Int) ∧ m + d = (readsP P x.at_).length ∧ Ev No n h n' h') ?_ (d := (readsP P x.at_).length) ⟨rfl, rfl, rfl, rfl, rfl, rfl, rfl, rfl, 0, rfl, by omega, Ev.start v.f⟩ (by omega)
  rintro d _ x2 _ _ _ _ _ w _ n1 h1 rec ⟨rfl, rfl, rfl, rfl, rfl, rfl, rfl, rfl, m, rfl, hm, e1⟩ hr
  have wm := wrap_succ (show m < 9223372036854775807 by omega)
  have p1 := p.keep (Kp.ev e1 v.hn)
  have v1 := v.ev e1
  have le1 := e1.le
  have hn := v.hn
  have sw1 : SlI h1 n0 n w (readsP P x.at_) := sw.keep (fun _ h => h) (fun b hb => e1.no hb.2) fun _ _ h => h
  simp only [wpS.1, wpS.2.1, wpS.2.2.1, wpS.2.2.2.2, sw1.len, decide_eq_true_eq, decide_eq_false_iff_not]
  refine ⟨fun hlt => ?_, fun hge => hj _ _ e1⟩
  obtain ⟨r, hr0, _⟩ := Sl.get (show m < (readsP P x.at_).length by omega)
  have hmem := List.mem_of_getElem? hr0
  obtain ⟨fn, hfn, okx, _, _⟩ := v.inv.frm x (by rw [hM]; simp)
  obtain ⟨r1, r2, h16⟩ := reads_in rt hfn hmem
  obtain ⟨r, rfl⟩ : ∃ k : Nat, r = k := ⟨r.toNat, by omega⟩
  obtain ⟨b4, o4, cs4, kd4, _, hix4, hb4, hk4, rfl, hcs4, _, hl4, hd4⟩ := sw1.at hr0
  have c4 : cs4[o4]? = _ := hcs4 0 _ rfl
  have hr16 := v.ls.n16 row (List.mem_of_getElem? hrow)
  obtain ⟨val, hval⟩ : ∃ z, row[r]? = some z := ⟨row[r]'(by omega), List.getElem?_eq_getElem _⟩
  have cv := v1.ls.each _ _ _ _ hrow hval
  simp only [hix4, wpM.1, hb4, ldv_live hk4, c4, Option.some.injEq, exists_eq_left', wpS.1, wpS.2.1, wpS.2.2.1, wpS.2.2.2.2]
  rw [hL, wrap64 (by omega), show ((low.length + 1 : Nat) : Int) - 1 = (low.length : Int) by omega]
  rw [ixI (by omega), ixA (by omega), Nat.zero_add, Nat.mul_one, ldW v1.ls.get v1.ls.live cv]
  obtain ⟨sg, hsg⟩ : ∃ sg, getI P.sigs fn.sig = some sg := by
    obtain ⟨k, t, _, h1, _⟩ := getI_of (rt.nm.funcs fn (getI_mem hfn)).sig
    exact ⟨_, h1⟩
  obtain ⟨kf, hkf, hf⟩ := getI_some hfn
  have lok := v.lp.ok low.length x row (by rw [hM]; simp) hrow r val hval
  have hpl := rt.lm.points
  refine Wp.cl' (defs_wp p1 rt.lm rt.nm ha hkf hf hsg ⟨r1, r2⟩ hF e1.f (by omega) fun n2 h2 vl T e2 g2 ht t1 t2 => ?_)
  have e12 := Ev.more e1 e2
  have v2 := v1.ev e2
  have sw2 : SlI h2 n0 n w (readsP P x.at_) := sw.keep (fun _ h => h) (fun b hb => e12.no hb.2) fun _ _ h => h
  have cv2 := v2.ls.each _ _ _ _ hrow hval
  have hnb : ∀ nb : Nat, ∀ d, (pointsP P)[nb]? = some d → nb < 4464 := fun nb d h => by
    have := (List.getElem?_eq_some_iff.1 h).1; omega
  have hvv : 0 ≤ val ∧ val < 1000000 := by
    rcases lok with ⟨h1, _⟩ | ⟨d, nb, h1, h2, _⟩
    · omega
    · have := hnb nb d h2; omega
  refine Wp.chkI.2 ?_
  have hb42 : h2.get b4 = some ⟨cs4, kd4⟩ := by rw [e2.no (e1.f.lt hb4), hb4]
  rw [hb42]
  refine (ldn_live hk4).2 ⟨hl4, ?_⟩
  rw [hd4]
  refine ⟨by simp [veqS], Wp.chkI.2 ?_⟩
  rw [v2.ls.get]
  refine (ldn_live v2.ls.live).2 ⟨by have := (List.getElem?_eq_some_iff.1 cv2).1; omega, ?_⟩
  rw [take1 cv2]
  refine ⟨by simp [veqS], ?_⟩
  refine Wp.cl' (there_wp (g2.sl (by omega)) ht hvv ?_ (by omega) ?_)
  · rcases lok with ⟨h1, h3⟩ | ⟨d, nb, h1, h3, h4, h5⟩
    · refine ⟨_, t2 (by rw [← hkf]; exact h3) ?_, .inl ⟨h1, rfl⟩⟩
      rcases rt.as_ x.at_ okx.mem _ hmem fn sg hfn hsg with h6 | h6
      · exact h6
      · exact absurd ⟨rfl, rfl⟩ (h6 x.at_ h3)
    · exact ⟨_, t1 d nb h5 h4 h3, .inr ⟨by omega, rfl, by dsimp only; omega⟩⟩
  · refine (Wp.eq st_not).2 (Wp.bool.2 ⟨fun h => absurd h (by decide), fun _ => ?_⟩)
    simp only [wpS, wm]
    exact hr (d - 1) _ _ _ _ _ _ _ _ _ _ _ (by omega) ⟨rfl, rfl, rfl, by rw [hL], rfl, rfl, rfl, rfl, m + 1, rfl, by omega, e12⟩
end Go.Fn
end
section
set_option linter.unusedVariables false
namespace Go.Fn
open Go Go.Fw

variable {F n : Nat} {h : H} {Q : Post} {K : V → St}

/-- The heap's part of what holds. -/
structure LpH (n0 : Nat) (h0 : H) (bp bM : Nat) (ρ : Rl) (n : Nat) (h : H) (M : Mc) (b c : Nat) (cs : List V) (kd : Kind) (L : List (List Int)) : Prop where
  f : Fr n h
  hn : n0 ≤ n
  kp : Kp n0 h0 h
  no : ∀ b, b < n0 → ρ b = .no
  fresh : ∀ b, n ≤ b → ρ b = .no
  ma : MA ρ h bp bM M
  ls : LsAt ρ h b c cs kd L
  hb : n0 ≤ b
theorem LpH.i {P : Pg} {n0 : Nat} {h0 : H} {bp bM : Nat} {ρ : Rl} {M : Mc} {b c : Nat} {cs : List V} {kd : Kind} {L : List (List Int)} (v : LpH n0 h0 bp bM ρ n h M b c cs kd L) (inv : Inv P M) (he : M.ended = 0) (lp : LsP P M.fs L) : LpI P n0 h0 bp bM ρ n h M b c cs kd L :=
  ⟨v.f, v.hn, v.kp, v.no, v.fresh, v.ma, inv, he, v.ls, v.hb, lp⟩
theorem MA.out {ρ : Rl} {bp bM : Nat} {h' : H} {M : Mc} (ma : MA ρ h bp bM M) (f : Fr n h) {b : Nat} (hb : ρ b = .no) (k : ∀ c, c < n → c ≠ b → h'.get c = h.get c) : MA ρ h' bp bM M := by
  obtain ⟨bF, cF, cs, kd, vH, vO, m⟩ := ma
  exact ⟨bF, cF, cs, kd, vH, vO, m.keep f fun c hc hr => ⟨rfl, k c hc fun e => hr (by rw [e]; exact hb)⟩⟩
theorem LpH.put {n0 i r : Nat} {h0 : H} {bp bM : Nat} {ρ : Rl} {M : Mc} {b c : Nat} {cs : List V} {kd : Kind} {L : List (List Int)} {row : List Int} {z : Int} (v : LpH n0 h0 bp bM ρ n h M b c cs kd L) (hrow : L[i]? = some row) (hr : r < 16) :
    LpH n0 h0 bp bM ρ n (h.set b ⟨cs.set (i * 16 + r) (i64 z), kd⟩) M b c (cs.set (i * 16 + r) (i64 z)) kd (L.set i (row.set r z)) :=
  ⟨v.f.set _ (v.f.lt v.ls.get), v.hn, v.kp.trans (fun x hx => H.get_set_ne _ _ (by have := v.hb; omega)), v.no, v.fresh, v.ma.out v.f v.ls.role fun x _ hx => H.get_set_ne _ _ hx, v.ls.put hrow hr (H.get_set_same _ _ _), v.hb⟩

/-- The rows go with the frames after a step. -/
theorem LsP.step {P : Pg} {M M' : Mc} {low : List Frm} {x : Frm} {L L1 : List (List Int)} {row1 : List Int} (lp : LsP P M.fs L) (hM : M.fs = low ++ [x]) (s : StepR P M M' low x) (h1 : L1.length = L.length) (h2 : ∀ i, i < low.length → L1[i]? = L[i]?) (h3 : L1[low.length]? = some row1) (h4 : ∀ (r : Nat) v, row1[r]? = some v → ∀ q', q' ∈ nextP P x.at_ → LsOk P q' r v) :
    (M'.called = -1 ∧ M'.fs.length ≤ L1.length ∧ LsP P M'.fs (L1.take M'.fs.length)) ∨ (0 ≤ M'.called ∧ M'.fs.length ≤ (L1 ++ [List.replicate 16 0]).length ∧ LsP P M'.fs ((L1 ++ [List.replicate 16 0]).take M'.fs.length)) := by
  have hl : L.length = low.length + 1 := by rw [lp.len, hM]; simp
  have old : ∀ (i : Nat) y row, i < low.length → low[i]? = some y → L1[i]? = some row → ∀ (r : Nat) v, row[r]? = some v → LsOk P y.at_ r v := fun i y row hi hy hr =>
    lp.ok i y row (by rw [hM, List.getElem?_append_left hi]; exact hy) (by rw [← h2 i hi]; exact hr)
  have tk : ∀ {A : List (List Int)} {k i : Nat} {row : List Int}, (A.take k)[i]? = some row → A[i]? = some row := fun {A k i row} h => by
    rw [List.getElem?_take] at h
    split at h
    · exact h
    · cases h
  rcases s.2 with ⟨c1, y, e1, e2⟩ | ⟨c1, x', y, e1, e2, e3⟩ | ⟨c1, l, y, y', e0, e1, e2⟩
  · refine .inl ⟨c1, by rw [e1]; simp; omega, by rw [e1, List.length_take]; simp; omega, fun i z row hz hrow r v hv => ?_⟩
    have hrow := tk hrow
    rw [e1] at hz
    rcases Nat.lt_or_ge i low.length with hi | hi
    · rw [List.getElem?_append_left hi] at hz
      exact old i z row hi hz hrow r v hv
    · have hlt := (List.getElem?_eq_some_iff.1 hz).1
      have hi2 : i = low.length := by simp at hlt; omega
      subst hi2
      rw [List.getElem?_append_right (Nat.le_refl _)] at hz
      simp at hz; subst hz
      rw [h3] at hrow; cases hrow
      exact h4 r v hv _ e2
  · refine .inr ⟨c1, by rw [e1]; simp; omega, by rw [e1, List.length_take]; simp; omega, fun i z row hz hrow r v hv => ?_⟩
    have hrow := tk hrow
    rw [e1] at hz
    rcases Nat.lt_or_ge i low.length with hi | hi
    · rw [List.getElem?_append_left hi] at hz
      rw [List.getElem?_append_left (by omega)] at hrow
      exact old i z row hi hz hrow r v hv
    · have hlt := (List.getElem?_eq_some_iff.1 hz).1
      simp at hlt
      rw [List.getElem?_append_right hi] at hz
      by_cases hi2 : i = low.length
      · subst hi2
        simp at hz; subst hz
        rw [List.getElem?_append_left (by omega), h3] at hrow; cases hrow
        exact h4 r v hv _ e2
      · have hi3 : i = low.length + 1 := by omega
        subst hi3
        simp at hz; subst hz
        have : row = List.replicate 16 0 := last_row (by rw [h1, hl]; exact hrow)
        rw [this] at hv
        rw [List.getElem?_replicate] at hv
        split at hv
        · cases hv
          refine .inl ⟨rfl, ?_⟩
          rw [e3]; exact .start
        · cases hv
  · have hll : low.length = l.length + 1 := by rw [e0]; simp
    refine .inl ⟨c1, by rw [e1]; simp; omega, by rw [e1, List.length_take]; simp; omega, fun i z row hz hrow r v hv => ?_⟩
    have hrow := tk hrow
    rw [e1] at hz
    rcases Nat.lt_or_ge i l.length with hi | hi
    · rw [List.getElem?_append_left hi] at hz
      exact old i z row (by omega) (by rw [e0, List.getElem?_append_left hi]; exact hz) hrow r v hv
    · have hlt := (List.getElem?_eq_some_iff.1 hz).1
      have hi2 : i = l.length := by simp at hlt; omega
      subst hi2
      rw [List.getElem?_append_right (Nat.le_refl _)] at hz
      simp at hz; subst hz
      have := old l.length y row (by omega) (by rw [e0]; simp) hrow r v hv
      rw [e2]; exact this
end Go.Fn
end
section
set_option linter.unusedVariables false
namespace Go.Fn
open Go Go.Fw

variable {F n : Nat} {h : H} {Q : Post} {K : V → St}

theorem LpH.cut_ {n0 k : Nat} {h0 : H} {bp bM : Nat} {ρ : Rl} {M : Mc} {b c : Nat} {cs : List V} {kd : Kind} {L : List (List Int)} (v : LpH n0 h0 bp bM ρ n h M b c cs kd L) (hk : k ≤ L.length) (h0' : 0 < k) : LpH n0 h0 bp bM ρ n h M b c cs kd (L.take k) :=
  ⟨v.f, v.hn, v.kp, v.no, v.fresh, v.ma, v.ls.cut hk h0', v.hb⟩

/-- The step is done: rows for frames that came, none for those that went. -/
theorem cut_wp {x2 : V} {n0 i : Nat} {h0 : H} {P : Pg} {bp bM b c : Nat} {ρ : Rl} {M : Mc} {cs : List V} {kd : Kind} {L : List (List Int)} {j21 : V → V → V → V → V → St} (v : LpH n0 h0 bp bM ρ n h M b c cs kd L) (inv : Inv P M) (he : M.ended = 0) (hL : L.length < 1000)
    (hlp : (M.called = -1 ∧ M.fs.length ≤ L.length ∧ LsP P M.fs (L.take M.fs.length)) ∨ (0 ≤ M.called ∧ M.fs.length ≤ (L ++ [List.replicate 16 0]).length ∧ LsP P M.fs ((L ++ [List.replicate 16 0]).take M.fs.length)))
    (h21 : ∀ n' h' b' c' cs' kd' L', LpI P n0 h0 bp bM ρ n' h' M b' c' cs' kd' L' → Wp (j21 (pt bp 0) x2 (pt bM 0) (sl b' 0 L'.length c') (i64 (i : Int))) n' h' Q) :
    Wp (jn (α := V → V → V → V → V → St) (fun v71 v72 v73 v74 v75 => kNil v73 fun v76 => kFieldAddr 1 v76 fun v77 => kLoad v77 fun v78 => kLen v78 fun v79 => kSlice 16 v74 none (some v79) none fun v80 => j21 v71 v72 v73 v80 v75) fun j70 => kNil (pt bM 0) fun v81 => kFieldAddr 5 v81 fun v82 => kLoad v82 fun v83 => kGeq v83 (i64 0) fun v84 => onB v84 (kBuild [(i64 0), (i64 0), (i64 0), (i64 0), (i64 0), (i64 0), (i64 0), (i64 0), (i64 0), (i64 0), (i64 0), (i64 0), (i64 0), (i64 0), (i64 0), (i64 0)] [] fun v85 => kBuildSlice 1 (rep 1 [(i64 0), (i64 0), (i64 0), (i64 0), (i64 0), (i64 0), (i64 0), (i64 0), (i64 0), (i64 0), (i64 0), (i64 0), (i64 0), (i64 0), (i64 0), (i64 0)]) [⟨0, 16, true, v85⟩] fun v86 => kApp 16 128 (sl b 0 L.length c) v86 fun v87 => j70 (pt bp 0) x2 (pt bM 0) v87 (i64 (i : Int))) (j70 (pt bp 0) x2 (pt bM 0) (sl b 0 L.length c) (i64 (i : Int)))) n h Q := by
  refine Wp.jn (fun j => ∀ n' h' b' c' cs' kd' L', LpH n0 h0 bp bM ρ n' h' M b' c' cs' kd' L' → M.fs.length ≤ L'.length → LsP P M.fs (L'.take M.fs.length) → Wp (j (pt bp 0) x2 (pt bM 0) (sl b' 0 L'.length c') (i64 (i : Int))) n' h' Q) ?_ fun j70 hj70 => ?_
  case refine_1 =>
    intro n' h' b' c' cs' kd' L' v' hle lp'
    have hpos : 0 < M.fs.length := by
      have := inv.some_
      rcases Nat.eq_zero_or_pos M.fs.length with e | e
      · exact absurd (List.eq_nil_of_length_eq_zero e) this
      · exact e
    have vc := (v'.cut_ hle hpos).i inv he lp'
    have hc : c' = U + 16 ∨ c' < U := by
      rcases v'.ls.kind with ⟨_, h1⟩ | ⟨_, _, h1⟩
      · exact .inl h1
      · exact .inr h1
    obtain ⟨bF, cF, csF, kdF, vH, vO, m⟩ := v'.ma
    simp only [wpS.1, wpS.2.1, wpS.2.2.1, wpS.2.2.2.2, wpM.1, m.get, ldv_own, Nat.zero_add, Nat.add_zero, List.getElem?_cons_zero, List.getElem?_cons_succ, Option.some.injEq, exists_eq_left']
    rw [slc_hi hle hc]
    have := h21 n' h' b' c' cs' kd' _ vc
    rw [List.length_take, Nat.min_eq_left hle] at this
    exact this
  obtain ⟨bF, cF, csF, kdF, vH, vO, m⟩ := v.ma
  simp only [wpS.1, wpS.2.1, wpS.2.2.1, wpS.2.2.2.2, wpM.1, m.get, ldv_own, Nat.zero_add, Nat.add_zero, List.getElem?_cons_zero, List.getElem?_cons_succ, Option.some.injEq, exists_eq_left', decide_eq_true_eq, decide_eq_false_iff_not]
  refine ⟨fun hge => ?_, fun hlt => ?_⟩
  · obtain ⟨_, h1, h2⟩ := hlp.resolve_left fun q => by have := q.1; omega
    refine push_wp v.ls v.f hL v.fresh fun n' h' b' c' cs' kd' f' le' k' ls' hb' => ?_
    have := hj70 n' h' b' c' cs' kd' _ ⟨f', Nat.le_trans v.hn le', fun y hy => by rw [k' y (by have := v.hn; omega) (by have := v.hb; omega), v.kp y hy], v.no, fun y hy => v.fresh y (by omega), v.ma.out v.f v.ls.role k', ls', by rcases hb' with rfl | q; exact v.hb; have := v.hn; omega⟩ h1 h2
    rw [List.length_append, List.length_singleton] at this
    exact this
  · obtain ⟨_, h1, h2⟩ := hlp.resolve_right fun q => by have := q.1; omega
    exact hj70 n h b c cs kd L v h1 h2
end Go.Fn
end
section
set_option linter.unusedVariables false
namespace Go.Fn
open Go Go.Fw

variable {F n : Nat} {h : H} {Q : Post} {K : V → St}

theorem def_lt {P : Pg} (rt : Rt P) {q : Pt} {r : Int} (hd : DefAt P q r) : 0 ≤ r ∧ r < 16 := by
  obtain ⟨c, h1, h2⟩ := hd
  obtain ⟨fn, bl, g1, g2, g3⟩ := codeP_some h1
  have h16 := (rt.lm.fun_ fn (getI_mem g1)).regs
  have := (((rt.nm.funcs fn (getI_mem g1)).code bl (getI_mem g2)).1 c (getI_mem g3)).2.1 r h2
  omega

theorem after_wp {n0 a bn i : Nat} {x2 : V} {h0 : H} {P : Pg} {bp bM b c : Nat} {ρ : Rl} {M : Mc} {cs : List V} {kd : Kind} {L : List (List Int)} {low : List Frm} {x : Frm} {row : List Int} {vr vs vi vm vf : V} {j7 : St} {j21 : V → V → V → V → V → St} (v : LpI P n0 h0 bp bM ρ n h M b c cs kd L) (p : Prg h0 n0 P bp vr vs vi vm vf) (rt : Rt P) (hM : M.fs = low ++ [x]) (hl : low.length < 60) (hL : L.length = low.length + 1) (hrow : L[low.length]? = some row) (ha : (pointsP P)[a]? = some x.at_)
    (gn : h.get bn = some ⟨[i64 x.at_.f, i64 x.at_.b, i64 x.at_.i], .own⟩) (hF : 100000 < F) (h7 : ∀ n' h', Wp j7 n' h' Q) (h21 : ∀ ρ' n' h' M' b' c' cs' kd' L', LpI P n0 h0 bp bM ρ' n' h' M' b' c' cs' kd' L' → Wp (j21 (pt bp 0) x2 (pt bM 0) (sl b' 0 L'.length c') (i64 (i : Int))) n' h' Q) :
    Wp (kLoadN 3 (pt bn 0) fun v52 => cl (R8_Code F (pt bp 0) v52) fun v53 => kExtract v53 0 fun v54 => kExtract v53 1 fun v55 => kPtr [(i64 0), (i64 0), (i64 0), (i64 0), (i64 0), nsl] fun v56 => kStoreN 6 v56 v54 fun _ => kLoadN 6 v56 fun v58 => cl (R8_Def F v58) fun v59 => kExtract v59 0 fun v60 => kExtract v59 1 fun v61 => cl (R14_Machine_Step F (pt bM 0)) fun v62 => kNeq v62 (i64 0) fun v63 => onB v63 (j7) (jn (α := V → V → V → V → V → St) (fun v65 v66 v67 v68 v69 => jn (α := V → V → V → V → V → St) (fun v71 v72 v73 v74 v75 => kNil v73 fun v76 => kFieldAddr 1 v76 fun v77 => kLoad v77 fun v78 => kLen v78 fun v79 => kSlice 16 v74 none (some v79) none fun v80 => j21 v71 v72 v73 v80 v75) fun j70 => kNil v67 fun v81 => kFieldAddr 5 v81 fun v82 => kLoad v82 fun v83 => kGeq v83 (i64 0) fun v84 => onB v84 (kBuild [(i64 0), (i64 0), (i64 0), (i64 0), (i64 0), (i64 0), (i64 0), (i64 0), (i64 0), (i64 0), (i64 0), (i64 0), (i64 0), (i64 0), (i64 0), (i64 0)] [] fun v85 => kBuildSlice 1 (rep 1 [(i64 0), (i64 0), (i64 0), (i64 0), (i64 0), (i64 0), (i64 0), (i64 0), (i64 0), (i64 0), (i64 0), (i64 0), (i64 0), (i64 0), (i64 0), (i64 0)]) [⟨0, 16, true, v85⟩] fun v86 => kApp 16 128 v68 v86 fun v87 => j70 v65 v66 v67 v87 v69) (j70 v65 v66 v67 v68 v69)) fun j64 => jn (α := V → V → V → V → V → V → V → V → St) (fun v89 v90 v91 v92 v93 v94 v95 v96 => onB v96 (kLen v92 fun v97 => kSub v97 (i64 1) fun v98 => kAdd v94 (i64 1) fun v99 => kIndexAddr 16 v92 v98 fun v100 => kIndexAddrA 16 1 v100 v95 fun v101 => kStore v101 v99 fun _ => j64 v89 v90 v91 v92 v93) (j64 v89 v90 v91 v92 v93)) fun j88 => onB v55 (j88 (pt bp 0) x2 (pt bM 0) (sl b 0 L.length c) (i64 (i : Int)) (i64 (a : Int)) v60 v61) (j88 (pt bp 0) x2 (pt bM 0) (sl b 0 L.length c) (i64 (i : Int)) (i64 (a : Int)) v60 (bo false)))) n h Q := by
  have hn := v.hn
  have p1 := p.keep v.kp
  have hpl := rt.lm.points
  have hal := (List.getElem?_eq_some_iff.1 ha).1
  rw [ld3W gn (by decide) rfl rfl rfl]
  refine cl_code p1 (q := x.at_) v.f v.hn fun n1 h1 w e1 c1 => ?_
  have le1 := e1.le
  suffices go : ∀ (y : Ins) (w : V), Fw.one w = true → ∀ (z : Bool), (z = true → codeP P x.at_ = some y) → (z = false → codeP P x.at_ = none) → Wp (kExtract (.tuple #[insV y w, bo z]) 0 fun v54 => kExtract (.tuple #[insV y w, bo z]) 1 fun v55 => kPtr [(i64 0), (i64 0), (i64 0), (i64 0), (i64 0), nsl] fun v56 => kStoreN 6 v56 v54 fun _ => kLoadN 6 v56 fun v58 => cl (R8_Def F v58) fun v59 => kExtract v59 0 fun v60 => kExtract v59 1 fun v61 => cl (R14_Machine_Step F (pt bM 0)) fun v62 => kNeq v62 (i64 0) fun v63 => onB v63 (j7) (jn (α := V → V → V → V → V → St) (fun v65 v66 v67 v68 v69 => jn (α := V → V → V → V → V → St) (fun v71 v72 v73 v74 v75 => kNil v73 fun v76 => kFieldAddr 1 v76 fun v77 => kLoad v77 fun v78 => kLen v78 fun v79 => kSlice 16 v74 none (some v79) none fun v80 => j21 v71 v72 v73 v80 v75) fun j70 => kNil v67 fun v81 => kFieldAddr 5 v81 fun v82 => kLoad v82 fun v83 => kGeq v83 (i64 0) fun v84 => onB v84 (kBuild [(i64 0), (i64 0), (i64 0), (i64 0), (i64 0), (i64 0), (i64 0), (i64 0), (i64 0), (i64 0), (i64 0), (i64 0), (i64 0), (i64 0), (i64 0), (i64 0)] [] fun v85 => kBuildSlice 1 (rep 1 [(i64 0), (i64 0), (i64 0), (i64 0), (i64 0), (i64 0), (i64 0), (i64 0), (i64 0), (i64 0), (i64 0), (i64 0), (i64 0), (i64 0), (i64 0), (i64 0)]) [⟨0, 16, true, v85⟩] fun v86 => kApp 16 128 v68 v86 fun v87 => j70 v65 v66 v67 v87 v69) (j70 v65 v66 v67 v68 v69)) fun j64 => jn (α := V → V → V → V → V → V → V → V → St) (fun v89 v90 v91 v92 v93 v94 v95 v96 => onB v96 (kLen v92 fun v97 => kSub v97 (i64 1) fun v98 => kAdd v94 (i64 1) fun v99 => kIndexAddr 16 v92 v98 fun v100 => kIndexAddrA 16 1 v100 v95 fun v101 => kStore v101 v99 fun _ => j64 v89 v90 v91 v92 v93) (j64 v89 v90 v91 v92 v93)) fun j88 => onB v55 (j88 (pt bp 0) x2 (pt bM 0) (sl b 0 L.length c) (i64 (i : Int)) (i64 (a : Int)) v60 v61) (j88 (pt bp 0) x2 (pt bM 0) (sl b 0 L.length c) (i64 (i : Int)) (i64 (a : Int)) v60 (bo false)))) n1 h1 Q by
    rcases c1 with ⟨hc, rfl⟩ | ⟨y, w, hc, sw, _, rfl⟩
    · exact go ⟨0, 0, 0, 0, 0, []⟩ nsl rfl false (fun h => absurd h (by decide)) fun _ => hc
    · exact go y w sw.one true (fun _ => hc) (fun h => absurd h (by decide))
  intro y w hw z hz1 hz2
  simp only [Wp.extractI, List.getElem?_cons_zero, List.getElem?_cons_succ, Option.some.injEq, exists_eq_left']
  refine ⟨by simp [isNF], by simp [isNF], ?_⟩
  refine Wp.put (cs := [i64 y.op, i64 y.dst, i64 y.a, i64 y.b, i64 y.n, w]) e1.f (by simp [oneS]) (by simp [oneS, hw]) rfl rfl ?_
  have e2 := ((e1.new ⟨[i64 0, i64 0, i64 0, i64 0, i64 0, nsl], .own⟩).set (b := n1) ⟨[i64 y.op, i64 y.dst, i64 y.a, i64 y.b, i64 y.n, w], .own⟩ (by omega) (by omega))
  have g3 : ((h1.set n1 ⟨[i64 0, i64 0, i64 0, i64 0, i64 0, nsl], .own⟩).set n1 ⟨[i64 y.op, i64 y.dst, i64 y.a, i64 y.b, i64 y.n, w], .own⟩).get n1 = some ⟨[i64 y.op, i64 y.dst, i64 y.a, i64 y.b, i64 y.n, w], .own⟩ := H.get_set_same _ _ _
  generalize (h1.set n1 ⟨[i64 0, i64 0, i64 0, i64 0, i64 0, nsl], .own⟩).set n1 ⟨[i64 y.op, i64 y.dst, i64 y.a, i64 y.b, i64 y.n, w], .own⟩ = h2 at e2 g3
  refine Wp.loadNI.2 ?_
  rw [g3]
  refine (ldn_live (by decide)).2 ⟨by simp, ?_⟩
  refine Wp.cl' (def_wp (x := y) (v := w) hw e2.f fun n3 h3 e3 => ?_)
  have v3 := v.ev (Ev.more e2 e3)
  -- what is written
  obtain ⟨dv, db, hov, hdt, hdf⟩ : ∃ (dv : Int) (db : Bool), optV (defP y) = .tuple #[i64 dv, bo db] ∧ ((z && db) = true → DefAt P x.at_ dv) ∧ (∀ r, DefAt P x.at_ r → (z && db) = true ∧ r = dv) := by
    cases hd : defP y with
    | none => exact ⟨0, false, rfl, (fun h => by simp at h), fun r ⟨cc, q1, q2⟩ => by
        cases z with
        | false => rw [hz2 rfl] at q1; cases q1
        | true => rw [hz1 rfl] at q1; cases q1; rw [hd] at q2; cases q2⟩
    | some d => refine ⟨d, true, rfl, fun h => ⟨y, hz1 (by simpa using h), hd⟩, fun r ⟨cc, q1, q2⟩ => ?_⟩
                cases z with
                | false => rw [hz2 rfl] at q1; cases q1
                | true => rw [hz1 rfl] at q1; cases q1; rw [hd] at q2; cases q2; exact ⟨rfl, rfl⟩
  rw [hov]
  simp only [Wp.extractI, List.getElem?_cons_zero, List.getElem?_cons_succ, Option.some.injEq, exists_eq_left']
  refine ⟨by simp [isNF], by simp [isNF], ?_⟩
  refine Wp.cl' (step_wp v3.ma (p.keep v3.kp) rt v3.inv hM v3.end_ v3.no v3.f v3.hn hF v3.fresh (fun e ρ' n' h' M' hne _ _ => ?_) fun ρ' n4 h4 M' mv ma' inv' st => ?_)
  · simp only [wpS.1, wpS.2.1, wpS.2.2.1, wpS.2.2.2.2, decide_eq_true_eq, decide_eq_false_iff_not]
    exact ⟨fun _ => h7 _ _, fun h => absurd hne h⟩
  simp only [wpS.1, wpS.2.1, wpS.2.2.1, wpS.2.2.2.2, decide_eq_true_eq, decide_eq_false_iff_not]
  refine ⟨fun h => absurd rfl h, fun _ => ?_⟩
  have hb3 := v3.f.lt v3.ls.get
  have vh : LpH n0 h0 bp bM ρ' n4 h4 M' b c cs kd L := ⟨mv.f, Nat.le_trans v3.hn mv.le, v3.kp.trans (mv.kp v3.hn v3.no), fun q hq => (mv.role q (by have := v3.hn; omega)).trans (v3.no q hq), mv.fresh, ma', v3.ls.keep (mv.role b hb3) (mv.same b hb3 v3.ls.role), v3.hb⟩
  refine Wp.jn (fun j => ∀ h' cs1 L1 row1, LpH n0 h0 bp bM ρ' n4 h' M' b c cs1 kd L1 → L1.length = L.length → (∀ k, k < low.length → L1[k]? = L[k]?) → L1[low.length]? = some row1 → (∀ (r : Nat) u, row1[r]? = some u → ∀ q', q' ∈ nextP P x.at_ → LsOk P q' r u) → Wp (j (pt bp 0) x2 (pt bM 0) (sl b 0 L.length c) (i64 (i : Int))) n4 h' Q) ?_ fun j64 hj64 => ?_
  case refine_1 =>
    intro h' cs1 L1 row1 v' q1 q2 q3 q4
    rw [← q1]
    exact cut_wp v' inv' st.1 (by omega) (v.lp.step hM st q1 q2 q3 q4) fun n' h' b' c' cs' kd' L' vv => h21 _ _ _ _ _ _ _ _ _ vv
  have lok : ∀ (r : Nat) u, row[r]? = some u → LsOk P x.at_ r u := fun r u hu => v.lp.ok low.length x row (by rw [hM]; simp) hrow r u hu
  refine Wp.jn (fun j => ∀ zb, zb = (z && db) → Wp (j (pt bp 0) x2 (pt bM 0) (sl b 0 L.length c) (i64 (i : Int)) (i64 (a : Int)) (i64 dv) (bo zb)) n4 h4 Q) ?_ fun j88 hj88 => ?_
  case refine_2 =>
    exact Wp.bool.2 ⟨fun hz => hj88 db (by rw [hz, Bool.true_and]), fun hz => hj88 false (by rw [hz, Bool.false_and])⟩
  intro zb hzb
  refine Wp.bool.2 ⟨fun ht => ?_, fun hf => hj64 h4 cs L row vh rfl (fun _ _ => rfl) hrow fun r u hu q' hq' => (lok r u hu).on (fun hd => ?_) hq'⟩
  case refine_2 =>
    have := (hdf _ hd).1
    rw [← hzb, hf] at this; cases this
  have hd := hdt (by rw [← hzb]; exact ht)
  have hr := def_lt rt hd
  obtain ⟨r, rfl⟩ : ∃ k : Nat, dv = k := ⟨dv.toNat, by omega⟩
  have hr16 : r < 16 := by omega
  have row16 := v.ls.n16 row (List.mem_of_getElem? hrow)
  simp only [wpS.1, wpS.2.1, wpS.2.2.1, wpS.2.2.2.2]
  rw [wrap64 (by omega), wrap64 (by omega), hL, show ((low.length + 1 : Nat) : Int) - 1 = (low.length : Int) by omega, ixI (by omega), ixA hr16, Nat.zero_add, Nat.mul_one, st1W vh.ls.get vh.ls.w (vh.ls.in16 (by omega) hr16) rfl, ← hL]
  refine hj64 _ _ _ (row.set r ((a : Int) + 1)) (vh.put (z := (a : Int) + 1) hrow hr16) (by simp) (fun k hk => List.getElem?_set_ne (by omega)) (List.getElem?_set_self (by omega)) fun s u hu q' hq' => ?_
  by_cases es : s = r
  · subst es
    rw [List.getElem?_set_self (by omega)] at hu; cases hu
    exact LsOk.def_ ha hd hq'
  · rw [List.getElem?_set_ne (fun q => es q.symm)] at hu
    refine (lok s u hu).on (fun hds => es ?_) hq'
    have := (hdf _ hds).2; omega
end Go.Fn
end
