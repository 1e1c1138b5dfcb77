/-
  The framework by which the law is proved: FsK, FpA, FsL, FsM, FnQ, FsN, FsO, FsQ.
-/
import Derived.Test.YtdomcfoabnhlfaaSfn2
set_option linter.all false
section
set_option linter.unusedVariables false
namespace Go.Fn
open Go Go.Fw

variable {F n : Nat} {h : H} {Q : Post}

structure FunN (P : Pg) (x : Fun) : Prop where
  sig : 0 ≤ x.sig ∧ x.sig < (P.sigs.length : Int)
  regs : ∀ t ∈ x.regs, namedP P t = true
  code : ∀ b ∈ x.blocks, (∀ i ∈ b.code, InsOk P x i) ∧ EndOk x b
structure Nm (P : Pg) : Prop where
  recs : ∀ r ∈ P.recs, ∀ t ∈ r, namedP P t = true
  sigs : ∀ s ∈ P.sigs, (∀ t ∈ s.params, namedP P t = true) ∧ namedP P s.res = true
  ifs : ∀ s ∈ P.ifs, ∀ z ∈ s, 0 ≤ z ∧ z < (P.sigs.length : Int)
  imps : ∀ m ∈ P.imps, (0 ≤ m.rec_ ∧ m.rec_ < (P.recs.length : Int)) ∧ (0 ≤ m.ifc ∧ m.ifc < (P.ifs.length : Int)) ∧ ∀ z ∈ m.funcs, 0 ≤ z ∧ z < (P.funcs.length : Int)
  funcs : ∀ x ∈ P.funcs, FunN P x
  main : 0 ≤ P.main ∧ P.main < (P.funcs.length : Int)

theorem cl_named {n0 : Nat} {P : Pg} {bp : Nat} {vr vs vi vm vf : V} {K : V → St} (p : Prg h n0 P bp vr vs vi vm vf) {t : Ty} (f : Fr n h) (hn : n0 ≤ n) (k : ∀ n' h', Ev No n h n' h' → Wp (K (bo (namedP P t))) n' h' Q) : Wp (cl (R8_named F (pt bp 0) (tyV t)) K) n h Q := by
  refine Wp.cl (R := fun v n' h' => Ev No n h n' h' ∧ bo (namedP P t) = v) (named_wp p (t := t) f hn fun n' h' e => ⟨e, rfl⟩) ?_
  rintro v n' h' ⟨e, rfl⟩
  exact k _ _ e

theorem names_wp {n0 : Nat} {P : Pg} {bp : Nat} {vr vs vi vm vf : V} (p : Prg h n0 P bp vr vs vi vm vf) (lm : Lm P) (f : Fr n h) (hn : n0 ≤ n) (hF : 100000 < F)
    (q : ∀ z q n' h', Ev No n h n' h' → (z = true → Nm P) → Q (.tuple #[ptV q, bo z]) n' h') : Wp (R8_Names F (pt bp 0)) n h Q := by
  unfold R8_Names
  refine (Wp.ptrI f).2 ⟨by simp [oneS], ?_⟩
  have e0 := (Ev.start f).new ⟨[i64 0, i64 0, i64 0], .own⟩
  have p0 := p.keep (Kp.ev e0 hn)
  have g0 : (h.set n ⟨[i64 0, i64 0, i64 0], .own⟩).get n = some ⟨[i64 0, i64 0, i64 0], .own⟩ := H.get_set_same _ _ _
  generalize h.set n ⟨[i64 0, i64 0, i64 0], .own⟩ = h0 at e0 p0 g0 ⊢
  have l1 := lm.recs
  have l2 := lm.sigs
  have l3 := lm.ifs
  have l4 := lm.imps
  have l5 := lm.funcs
  -- the records
  refine Wp.jn (fun j => ∀ z n' h', Ev No (n + 1) h0 n' h' → (z = true → ∀ r ∈ P.recs, ∀ t ∈ r, namedP P t = true) → Wp (j (pt bp 0) (pt n 0) (bo z)) n' h' Q) ?_ fun j hj => ?_
  case refine_2 =>
    refine Wp.loop4 (fun d x0 x1 x2 x3 n' h' => Ev No (n + 1) h0 n' h' ∧ x0 = pt bp 0 ∧ x1 = pt n 0 ∧ ∃ (z : Bool) (k : Nat), x2 = bo z ∧ x3 = i64 (k : Int) ∧ k + d = P.recs.length ∧ (z = true → ∀ r ∈ P.recs.take k, ∀ t ∈ r, namedP P t = true)) ?_ (d := P.recs.length) ⟨Ev.start e0.f, rfl, rfl, true, 0, rfl, rfl, by omega, by simp⟩ (by omega)
    rintro d _ _ _ _ n1 h1 rec ⟨e1, rfl, rfl, z, k, rfl, rfl, hk, ha⟩ hr
    have p1 := p0.keep (Kp.ev e1 (by omega))
    simp [wpS, wpM, p1.at_, ldv_ro, p1.recs.len]
    refine ⟨fun hlt => ?_, fun hge => hj _ _ _ e1 fun hz => all_end (ha hz) hge⟩
    obtain ⟨y, hy, _⟩ := Sl.get hlt
    have wk := wrap_succ (show k < 9223372036854775807 by omega)
    have ly := lm.rec_ y (List.mem_of_getElem? hy)
    refine Wp.loop5 (fun d2 x0 x1 x2 x3 x4 n' h' => Ev No (n + 1) h0 n' h' ∧ x0 = pt bp 0 ∧ x1 = pt n 0 ∧ x3 = i64 (k : Int) ∧ ∃ (z2 : Bool) (i : Nat), x2 = bo z2 ∧ x4 = i64 (i : Int) ∧ i + d2 = y.length ∧ (z2 = true → z = true ∧ ∀ t ∈ y.take i, namedP P t = true)) ?_ (d := y.length) ⟨e1, rfl, rfl, rfl, z, 0, rfl, rfl, by omega, by simp⟩ (by omega)
    rintro d2 _ _ _ _ _ n2 h2 rec2 ⟨e2, rfl, rfl, rfl, z2, i, rfl, rfl, hi, hb⟩ hr2
    have p2 := p0.keep (Kp.ev e2 (by omega))
    obtain ⟨b, o, cs, kd, _, hix, hb1, hkd, ⟨v, rfl, sv⟩, hcs, _⟩ := p2.recs.at hy
    have c0 : cs[o]? = _ := hcs 0 _ rfl
    have le2 := e2.le
    have wi := wrap_succ (show i < 9223372036854775807 by omega)
    simp [wpS, wpM, p2.at_, ldv_ro, hix, hb1, ldv_live hkd, c0, sv.len, wk]
    refine ⟨fun hlt2 => ?_, fun hge2 => hr (d - 1) _ _ _ _ _ _ (by omega) ⟨e2, rfl, rfl, z2, k + 1, rfl, by simp, by omega, fun hz => all_succ (ha (hb hz).1) hy (all_end (hb hz).2 hge2)⟩⟩
    obtain ⟨t, ht, _⟩ := Sl.get hlt2
    obtain ⟨b3, o3, cs3, kd3, _, hix3, hb3, hk3, ⟨rfl, _⟩, _, _, hl3, hd3⟩ := sv.at ht
    simp [wpS, hix3, wpM, hb3, ldn_live hk3, hl3, hd3, wi]
    refine ⟨fun hz => cl_named p2 e2.f (by omega) fun n3 h3 e3 => by
      simp only [wpS, wi]
      exact hr2 (d2 - 1) _ _ _ _ _ _ _ (by omega) ⟨Ev.more e2 e3, rfl, rfl, rfl, _, i + 1, rfl, by simp, by omega, fun hz2 => ⟨(hb hz).1, all_succ (hb hz).2 ht hz2⟩⟩, fun hz => hr2 (d2 - 1) _ _ _ _ _ _ _ (by omega) ⟨e2, rfl, rfl, rfl, false, i + 1, rfl, by simp, by omega, by simp⟩⟩
  intro z1 n1 h1 e1 hrec
  -- the signatures
  refine Wp.jn (fun j => ∀ z n' h', Ev No (n + 1) h0 n' h' → (z = true → z1 = true ∧ ∀ s ∈ P.sigs, (∀ t ∈ s.params, namedP P t = true) ∧ namedP P s.res = true) → Wp (j (pt bp 0) (pt n 0) (bo z)) n' h' Q) ?_ fun j hj => ?_
  case refine_2 =>
    refine Wp.loop4 (fun d x0 x1 x2 x3 n' h' => Ev No (n + 1) h0 n' h' ∧ x0 = pt bp 0 ∧ x1 = pt n 0 ∧ ∃ (z : Bool) (k : Nat), x2 = bo z ∧ x3 = i64 (k : Int) ∧ k + d = P.sigs.length ∧ (z = true → z1 = true ∧ ∀ s ∈ P.sigs.take k, (∀ t ∈ s.params, namedP P t = true) ∧ namedP P s.res = true)) ?_ (d := P.sigs.length) ⟨e1, rfl, rfl, z1, 0, rfl, rfl, by omega, by simp⟩ (by omega)
    rintro d _ _ _ _ n1 h1 rec ⟨e1, rfl, rfl, z, k, rfl, rfl, hk, ha⟩ hr
    have p1 := p0.keep (Kp.ev e1 (by omega))
    simp [wpS, wpM, p1.at_, ldv_ro, p1.sigs.len]
    refine ⟨fun hlt => ?_, fun hge => hj _ _ _ e1 fun hz => ⟨(ha hz).1, all_end (ha hz).2 hge⟩⟩
    obtain ⟨y, hy, _⟩ := Sl.get hlt
    have wk := wrap_succ (show k < 9223372036854775807 by omega)
    have ly := lm.sig_ y (List.mem_of_getElem? hy)
    refine Wp.loop5 (fun d2 x0 x1 x2 x3 x4 n' h' => Ev No (n + 1) h0 n' h' ∧ x0 = pt bp 0 ∧ x1 = pt n 0 ∧ x3 = i64 (k : Int) ∧ ∃ (z2 : Bool) (i : Nat), x2 = bo z2 ∧ x4 = i64 (i : Int) ∧ i + d2 = y.params.length ∧ (z2 = true → z = true ∧ ∀ t ∈ y.params.take i, namedP P t = true)) ?_ (d := y.params.length) ⟨e1, rfl, rfl, rfl, z, 0, rfl, rfl, by omega, by simp⟩ (by omega)
    rintro d2 _ _ _ _ _ n2 h2 rec2 ⟨e2, rfl, rfl, rfl, z2, i, rfl, rfl, hi, hb⟩ hr2
    have p2 := p0.keep (Kp.ev e2 (by omega))
    obtain ⟨b, o, cs, kd, _, hix, hb1, hkd, ⟨v, rfl, sv, _⟩, hcs, _, hl1, hd1⟩ := p2.sigs.at hy
    have c0 : cs[o]? = _ := hcs 0 _ rfl
    have c1 : (cs.drop (o + 1)).take 2 = [i64 y.res.1, i64 y.res.2] := by
      have := congrArg (fun l => l.drop 1) hd1
      simpa [List.drop_take, List.drop_drop] using this
    have le2 := e2.le
    have wi := wrap_succ (show i < 9223372036854775807 by omega)
    simp [wpS, wpM, p2.at_, ldv_ro, hix, hb1, ldv_live hkd, c0, sv.len, wk]
    refine ⟨fun hlt2 => ?_, fun hge2 => ?_⟩
    · obtain ⟨t, ht, _⟩ := Sl.get hlt2
      obtain ⟨b3, o3, cs3, kd3, _, hix3, hb3, hk3, ⟨rfl, _⟩, _, _, hl3, hd3⟩ := sv.at ht
      simp [wpS, hix3, wpM, hb3, ldn_live hk3, hl3, hd3, wi]
      refine ⟨fun hz => cl_named p2 e2.f (by omega) fun n3 h3 e3 => by
      simp only [wpS, wi]
      exact hr2 (d2 - 1) _ _ _ _ _ _ _ (by omega) ⟨Ev.more e2 e3, rfl, rfl, rfl, _, i + 1, rfl, by simp, by omega, fun hz2 => ⟨(hb hz).1, all_succ (hb hz).2 ht hz2⟩⟩, fun hz => hr2 (d2 - 1) _ _ _ _ _ _ _ (by omega) ⟨e2, rfl, rfl, rfl, false, i + 1, rfl, by simp, by omega, by simp⟩⟩
    · simp [ldn_live hkd, c1, show o + 1 + 2 ≤ cs.length by omega]
      refine ⟨fun hz => cl_named p2 e2.f (by omega) fun n3 h3 e3 => by
        simp only [wpS, wk]
        exact hr (d - 1) _ _ _ _ _ _ (by omega) ⟨Ev.more e2 e3, rfl, rfl, _, k + 1, rfl, by simp, by omega, fun hz2 => ⟨(ha (hb hz).1).1, all_succ (ha (hb hz).1).2 hy ⟨all_end (hb hz).2 hge2, hz2⟩⟩⟩, fun hz => hr (d - 1) _ _ _ _ _ _ (by omega) ⟨e2, rfl, rfl, false, k + 1, rfl, by simp, by omega, by simp⟩⟩
  intro z2 n1 h1 e1 hsig
  -- the interfaces
  refine Wp.jn (fun j => ∀ z n' h', Ev No (n + 1) h0 n' h' → (z = true → z2 = true ∧ ∀ s ∈ P.ifs, ∀ z ∈ s, 0 ≤ z ∧ z < (P.sigs.length : Int)) → Wp (j (pt bp 0) (pt n 0) (bo z)) n' h' Q) ?_ fun j hj => ?_
  case refine_2 =>
    refine Wp.loop4 (fun d x0 x1 x2 x3 n' h' => n1 = n' ∧ h1 = h' ∧ x0 = pt bp 0 ∧ x1 = pt n 0 ∧ ∃ (z : Bool) (k : Nat), x2 = bo z ∧ x3 = i64 (k : Int) ∧ k + d = P.ifs.length ∧ (z = true → z2 = true ∧ ∀ s ∈ P.ifs.take k, ∀ z ∈ s, 0 ≤ z ∧ z < (P.sigs.length : Int))) ?_ (d := P.ifs.length) ⟨rfl, rfl, rfl, rfl, z2, 0, rfl, rfl, by omega, by simp⟩ (by omega)
    rintro d _ _ _ _ _ _ rec ⟨rfl, rfl, rfl, rfl, z, k, rfl, rfl, hk, ha⟩ hr
    have p1 := p0.keep (Kp.ev e1 (by omega))
    simp [wpS, wpM, p1.at_, ldv_ro, p1.ifs.len]
    refine ⟨fun hlt => ?_, fun hge => hj _ _ _ e1 fun hz => ⟨(ha hz).1, all_end (ha hz).2 hge⟩⟩
    obtain ⟨y, hy, _⟩ := Sl.get hlt
    have wk := wrap_succ (show k < 9223372036854775807 by omega)
    have ly := lm.if_ y (List.mem_of_getElem? hy)
    refine Wp.loop5 (fun d2 x0 x1 x2 x3 x4 n' h' => n1 = n' ∧ h1 = h' ∧ x0 = pt bp 0 ∧ x1 = pt n 0 ∧ x3 = i64 (k : Int) ∧ ∃ (z2 : Bool) (i : Nat), x2 = bo z2 ∧ x4 = i64 (i : Int) ∧ i + d2 = y.length ∧ (z2 = true → z = true ∧ ∀ t ∈ y.take i, 0 ≤ t ∧ t < (P.sigs.length : Int))) ?_ (d := y.length) ⟨rfl, rfl, rfl, rfl, rfl, z, 0, rfl, rfl, by omega, by simp⟩ (by omega)
    rintro d2 _ _ _ _ _ _ _ rec2 ⟨rfl, rfl, rfl, rfl, rfl, z2, i, rfl, rfl, hi, hb⟩ hr2
    obtain ⟨b, o, cs, kd, _, hix, hb1, hkd, ⟨v, rfl, sv⟩, hcs, _⟩ := p1.ifs.at hy
    have c0 : cs[o]? = _ := hcs 0 _ rfl
    have wi := wrap_succ (show i < 9223372036854775807 by omega)
    simp [wpS, wpM, p1.at_, ldv_ro, hix, hb1, ldv_live hkd, c0, sv.len, wk, p1.sigs.len]
    refine ⟨fun hlt2 => ?_, fun hge2 => hr (d - 1) _ _ _ _ _ _ (by omega) ⟨rfl, rfl, rfl, rfl, z2, k + 1, rfl, by simp, by omega, fun hz => ⟨(ha (hb hz).1).1, all_succ (ha (hb hz).1).2 hy (all_end (hb hz).2 hge2)⟩⟩⟩
    obtain ⟨t, ht, _⟩ := Sl.get hlt2
    obtain ⟨b3, o3, cs3, kd3, _, hix3, hb3, hk3, ⟨rfl, _⟩, hcs3, _⟩ := sv.at ht
    have c3 : cs3[o3]? = _ := hcs3 0 _ rfl
    simp [wpS, hix3, wpM, hb3, ldv_live hk3, c3, cl_in, wi, p1.at_, ldv_ro, p1.sigs.len]
    exact ⟨fun hz => hr2 (d2 - 1) _ _ _ _ _ _ _ (by omega) ⟨rfl, rfl, rfl, rfl, rfl, _, i + 1, rfl, by simp, by omega, fun hz2 => ⟨(hb hz).1, all_succ (hb hz).2 ht (by simpa using hz2)⟩⟩, fun hz => hr2 (d2 - 1) _ _ _ _ _ _ _ (by omega) ⟨rfl, rfl, rfl, rfl, rfl, false, i + 1, rfl, by simp, by omega, by simp⟩⟩
  intro z3 n1 h1 e1 hif
  -- who implements
  refine Wp.jn (fun j => ∀ z n' h', Ev No (n + 1) h0 n' h' → (z = true → z3 = true ∧ ∀ m ∈ P.imps, (0 ≤ m.rec_ ∧ m.rec_ < (P.recs.length : Int)) ∧ (0 ≤ m.ifc ∧ m.ifc < (P.ifs.length : Int)) ∧ ∀ z ∈ m.funcs, 0 ≤ z ∧ z < (P.funcs.length : Int)) → Wp (j (pt bp 0) (pt n 0) (bo z)) n' h' Q) ?_ fun j hj => ?_
  case refine_2 =>
    refine Wp.loop4 (fun d x0 x1 x2 x3 n' h' => Ev No (n + 1) h0 n' h' ∧ x0 = pt bp 0 ∧ x1 = pt n 0 ∧ ∃ (z : Bool) (k : Nat), x2 = bo z ∧ x3 = i64 (k : Int) ∧ k + d = P.imps.length ∧ (z = true → z3 = true ∧ ∀ m ∈ P.imps.take k, (0 ≤ m.rec_ ∧ m.rec_ < (P.recs.length : Int)) ∧ (0 ≤ m.ifc ∧ m.ifc < (P.ifs.length : Int)) ∧ ∀ z ∈ m.funcs, 0 ≤ z ∧ z < (P.funcs.length : Int))) ?_ (d := P.imps.length) ⟨e1, rfl, rfl, z3, 0, rfl, rfl, by omega, by simp⟩ (by omega)
    rintro d _ _ _ _ n1 h1 rec ⟨e1, rfl, rfl, z, k, rfl, rfl, hk, ha⟩ hr
    have p1 := p0.keep (Kp.ev e1 (by omega))
    simp [wpS, wpM, p1.at_, ldv_ro, p1.imps.len]
    refine ⟨fun hlt => ?_, fun hge => hj _ _ _ e1 fun hz => ⟨(ha hz).1, all_end (ha hz).2 hge⟩⟩
    obtain ⟨y, hy, _⟩ := Sl.get hlt
    have wk := wrap_succ (show k < 9223372036854775807 by omega)
    have ly := lm.imp_ y (List.mem_of_getElem? hy)
    obtain ⟨b, o, cs, kd, _, hix, hb1, hkd, ⟨v, rfl, sv, _⟩, hcs, _, hl1, hd1⟩ := p1.imps.at hy
    rw [hix]
    have le1 := e1.le
    refine Wp.copy e1 hb1 hkd hl1 hd1 (by simp [oneS, sv.one]) rfl rfl fun h2 e2 g2 k2 => ?_
    have p2 := p0.keep (Kp.ev e2 (by omega))
    replace sv := sv.keep (h' := h2) (fun b hb => k2 b (by omega)) fun _ _ h => h
    refine Wp.jn (fun j => ∀ z', (z' = true → z = true ∧ (0 ≤ y.rec_ ∧ y.rec_ < (P.recs.length : Int)) ∧ (0 ≤ y.ifc ∧ y.ifc < (P.ifs.length : Int))) → Wp (j (pt bp 0) (pt n 0) (bo z') (i64 (k : Int)) (pt n1 0)) (n1 + 1) h2 Q) ?_ fun j2 hj2 => ?_
    case refine_2 =>
      simp [wpS, wpM, p2.at_, ldv_ro, g2, ldv_own, p2.recs.len, p2.ifs.len, cl_in]
      exact ⟨fun hz => ⟨fun h1 h2 => hj2 _ fun hz2 => ⟨hz, ⟨h1, h2⟩, by simpa using hz2⟩, fun _ => hj2 _ (by simp)⟩, fun _ => hj2 _ (by simp)⟩
    intro z' hz'
    refine Wp.loop6 (fun d2 x0 x1 x2 x3 x4 x5 n' h' => n1 + 1 = n' ∧ h2 = h' ∧ x0 = pt bp 0 ∧ x1 = pt n 0 ∧ x3 = i64 (k : Int) ∧ x4 = pt n1 0 ∧ ∃ (w : Bool) (i : Nat), x2 = bo w ∧ x5 = i64 (i : Int) ∧ i + d2 = y.funcs.length ∧ (w = true → z' = true ∧ ∀ t ∈ y.funcs.take i, 0 ≤ t ∧ t < (P.funcs.length : Int))) ?_ (d := y.funcs.length) ⟨rfl, rfl, rfl, rfl, rfl, rfl, z', 0, rfl, rfl, by omega, by simp⟩ (by omega)
    rintro d2 _ _ _ _ _ _ _ _ rec2 ⟨rfl, rfl, rfl, rfl, rfl, rfl, w, i, rfl, rfl, hi, hb⟩ hr2
    have wi := wrap_succ (show i < 9223372036854775807 by omega)
    simp [wpS, wpM, p2.at_, ldv_ro, g2, ldv_own, sv.len, wk, p2.funcs.len]
    refine ⟨fun hlt2 => ?_, fun hge2 => hr (d - 1) _ _ _ _ _ _ (by omega) ⟨e2, rfl, rfl, w, k + 1, rfl, by simp, by omega, fun hz => ⟨(ha (hz' (hb hz).1).1).1, all_succ (ha (hz' (hb hz).1).1).2 hy ⟨(hz' (hb hz).1).2.1, (hz' (hb hz).1).2.2, all_end (hb hz).2 hge2⟩⟩⟩⟩
    obtain ⟨t, ht, _⟩ := Sl.get hlt2
    obtain ⟨b3, o3, cs3, kd3, _, hix3, hb3, hk3, ⟨rfl, _⟩, hcs3, _⟩ := sv.at ht
    have c3 : cs3[o3]? = _ := hcs3 0 _ rfl
    simp [wpS, hix3, wpM, hb3, ldv_live hk3, c3, cl_in, wi, p2.at_, ldv_ro, p2.funcs.len]
    exact ⟨fun hz => hr2 (d2 - 1) _ _ _ _ _ _ _ _ (by omega) ⟨rfl, rfl, rfl, rfl, rfl, rfl, _, i + 1, rfl, by simp, by omega, fun hz2 => ⟨(hb hz).1, all_succ (hb hz).2 ht (by simpa using hz2)⟩⟩, fun hz => hr2 (d2 - 1) _ _ _ _ _ _ _ _ (by omega) ⟨rfl, rfl, rfl, rfl, rfl, rfl, false, i + 1, rfl, by simp, by omega, by simp⟩⟩
  intro z4 n1 h1 e1 himp
  have k0 : ∀ {n' h'}, Ev No (n + 1) h0 n' h' → h'.get n = some ⟨[i64 0, i64 0, i64 0], .own⟩ := fun e => by rw [e.no (by omega), g0]
  have stop : ∀ {n' h'}, Ev No (n + 1) h0 n' h' → ∀ (z : Bool), (z = true → Nm P) → Wp (cl (R8_Nowhere F) fun v18 => kStoreN 3 (pt n 0) v18 fun _ => kLoadN 3 (pt n 0) fun v20 => tupK [v20, (bo z)]) n' h' Q := fun {n' h'} e' z hz => by
    refine Wp.cl (R := fun v n2 h2 => Ev No n' h' n2 h2 ∧ .agg #[i64 (-1), i64 0, i64 0] = v) (nowhere_wp e'.f fun n2 h2 e2 => ⟨e2, rfl⟩) ?_
    rintro _ n2 h2 ⟨e2, rfl⟩
    have le' := e'.le
    have g2 := k0 (Ev.more e' e2)
    have e3 := Ev.more e0 (Ev.more e' e2)
    have := q z ⟨-1, 0, 0⟩ _ _ (e3.set (b := n) ⟨[i64 (-1), i64 0, i64 0], .own⟩ (by omega) (by have := e2.le; omega)) hz
    simpa [wpS, wpM, g2, wsn, ldn, over, oneS, H.get_set_same] using this
  refine (Wp.eq st_not).2 (Wp.bool.2 ⟨fun _ => stop e1 false (by simp), fun hz5 => ?_⟩)
  replace hz5 : z4 = true := by simpa using hz5
  obtain ⟨hz4, himp⟩ := himp hz5
  obtain ⟨hz3, hif⟩ := hif hz4
  obtain ⟨hz2, hsig⟩ := hsig hz3
  replace hrec := hrec hz2
  have l6 := lm.fun_
  -- the functions
  refine Wp.jn (fun j => ∀ n' h', Ev No (n + 1) h0 n' h' → (∀ x ∈ P.funcs, FunN P x) → Wp (j (pt bp 0) (pt n 0)) n' h' Q) ?_ fun j hj => ?_
  case refine_1 =>
    intro n2 h2 e2 hfun
    have p2 := p0.keep (Kp.ev e2 (by omega))
    have le2 := e2.le
    simp [wpS, wpM, p2.at_, ldv_ro, p2.funcs.len]
    refine Wp.cl (R := fun v n' h' => Ev No n2 h2 n' h' ∧ .agg #[i64 (-1), i64 0, i64 0] = v) (nowhere_wp e2.f fun n' h' e' => ⟨e', rfl⟩) ?_
    rintro _ n3 h3 ⟨e3, rfl⟩
    have p3 := p2.keep (Kp.ev e3 (by omega))
    have g3 := k0 (Ev.more e2 e3)
    have e4 := Ev.more e0 (Ev.more e2 e3)
    have le3 := e3.le
    have := fun z hz => q z ⟨-1, 0, 0⟩ _ _ (e4.set (b := n) ⟨[i64 (-1), i64 0, i64 0], .own⟩ (by omega) (by omega)) hz
    have hvf : Fw.veq vf vf = true := p3.funcs.veq
    simp [wpS, wpM, wpN, p3.at_, ldv_ro, p3.funcs.len, ldn, veqS, hvf, cl_in, g3, wsn, over, oneS, H.get_set_same]
    exact this _ fun hm => ⟨hrec, hsig, hif, himp, hfun, by simpa using hm⟩
  refine Wp.loop3 (fun d x0 x1 x2 n' h' => Ev No (n + 1) h0 n' h' ∧ x0 = pt bp 0 ∧ x1 = pt n 0 ∧ ∃ (k : Nat), x2 = i64 (k : Int) ∧ k + d = P.funcs.length ∧ ∀ x ∈ P.funcs.take k, FunN P x) ?_ (d := P.funcs.length) ⟨e1, rfl, rfl, 0, rfl, by omega, by simp⟩ (by omega)
  rintro d _ _ _ n2 h2 rec ⟨e2, rfl, rfl, k, rfl, hk, ha⟩ hr
  have p2 := p0.keep (Kp.ev e2 (by omega))
  simp [wpS, wpM, p2.at_, ldv_ro, p2.funcs.len]
  refine ⟨fun hlt => ?_, fun hge => hj _ _ e2 (all_end ha hge)⟩
  obtain ⟨x, hx, _⟩ := Sl.get hlt
  have lx := l6 x (List.mem_of_getElem? hx)
  have wk := wrap_succ (show k < 9223372036854775807 by omega)
  have le2 := e2.le
  obtain ⟨b, o, cs, kd, _, hix, hb1, hkd, ⟨vg, vb, rfl, sr, sb, _⟩, hcs, _, hl1, hd1⟩ := p2.funcs.at hx
  rw [hix]
  refine Wp.copy e2 hb1 hkd hl1 hd1 (by simp [oneS, sr.one, sb.one]) rfl rfl fun h3 e3 g3 k3 => ?_
  have kp3 : Kp n0 h2 h3 := fun b hb => k3 b (by omega)
  have p3 := p0.keep (Kp.ev e3 (by omega))
  replace sr := sr.keep kp3 fun _ _ h => h
  replace sb := sb.keep kp3 (BloC.keep kp3)
  simp [wpS.1, wpS.2.1, wpS.2.2.1, wpS.2.2.2.2, wpM, g3, ldv_own, p3.at_, ldv_ro, p3.sigs.len, cl_in]
  refine Wp.jn (fun j => ∀ z n' h', Ev No (n2 + 1) h3 n' h' → (z = true → (0 ≤ x.sig ∧ x.sig < (P.sigs.length : Int)) ∧ ∀ t ∈ x.regs, namedP P t = true) → Wp (j (pt bp 0) (pt n 0) (bo z) (i64 (k : Int)) (pt n2 0)) n' h' Q) ?_ fun j2 hj2 => ?_
  case refine_2 =>
    refine Wp.loop6 (fun d2 x0 x1 x2 x3 x4 x5 n' h' => Ev No (n2 + 1) h3 n' h' ∧ x0 = pt bp 0 ∧ x1 = pt n 0 ∧ x3 = i64 (k : Int) ∧ x4 = pt n2 0 ∧ ∃ (w : Bool) (i : Nat), x2 = bo w ∧ x5 = i64 (i : Int) ∧ i + d2 = x.regs.length ∧ (w = true → (0 ≤ x.sig ∧ x.sig < (P.sigs.length : Int)) ∧ ∀ t ∈ x.regs.take i, namedP P t = true)) ?_ (d := x.regs.length) ⟨Ev.start e3.f, rfl, rfl, rfl, rfl, _, 0, rfl, rfl, by omega, by simp⟩ (by have := lx.regs; omega)
    rintro d2 _ _ _ _ _ _ n4 h4 rec2 ⟨e4, rfl, rfl, rfl, rfl, w, i, rfl, rfl, hi, hb⟩ hr2
    have wi := wrap_succ (show i < 9223372036854775807 by have := lx.regs; omega)
    have g4 : h4.get n2 = some ⟨[i64 x.sig, vg, vb], .own⟩ := by rw [e4.no (by omega), g3]
    have p4 := p3.keep (Kp.ev e4 (by omega))
    have sr4 := sr.keep (Kp.ev e4 (by omega)) fun _ _ h => h
    have le4 := e4.le
    simp [wpS, wpM, g4, ldv_own, sr4.len]
    refine ⟨fun hlt2 => ?_, fun hge2 => hj2 _ _ _ e4 fun hz => ⟨(hb hz).1, all_end (hb hz).2 hge2⟩⟩
    obtain ⟨t, ht, _⟩ := Sl.get hlt2
    obtain ⟨b3, o3, cs3, kd3, _, hix3, hb3, hk3, ⟨rfl, _⟩, _, _, hl3, hd3⟩ := sr4.at ht
    simp [wpS, hix3, wpM, hb3, ldn_live hk3, hl3, hd3, wi]
    refine ⟨fun hz => cl_named p4 e4.f (by omega) fun n5 h5 e5 => by
      simp only [wpS, wi]
      exact hr2 (d2 - 1) _ _ _ _ _ _ _ _ (by omega) ⟨Ev.more e4 e5, rfl, rfl, rfl, rfl, _, i + 1, rfl, by simp, by omega, fun hz2 => ⟨(hb hz).1, all_succ (hb hz).2 ht hz2⟩⟩, fun hz => hr2 (d2 - 1) _ _ _ _ _ _ _ _ (by omega) ⟨e4, rfl, rfl, rfl, rfl, false, i + 1, rfl, by simp, by omega, by simp⟩⟩
  intro z n4 h4 e4 hz4
  refine (Wp.eq st_not).2 (Wp.bool.2 ⟨fun _ => stop (Ev.more e3 e4) false (by simp), fun hz5 => ?_⟩)
  replace hz4 := hz4 (by simpa using hz5)
  -- the blocks
  refine Wp.loop5 (fun d2 x0 x1 x2 x3 x4 n' h' => Ev No (n2 + 1) h3 n' h' ∧ x0 = pt bp 0 ∧ x1 = pt n 0 ∧ x2 = i64 (k : Int) ∧ x3 = pt n2 0 ∧ ∃ (i : Nat), x4 = i64 (i : Int) ∧ i + d2 = x.blocks.length ∧ ∀ b ∈ x.blocks.take i, (∀ i ∈ b.code, InsOk P x i) ∧ EndOk x b) ?_ (d := x.blocks.length) ⟨e4, rfl, rfl, rfl, rfl, 0, rfl, by omega, by simp⟩ (by have := lx.blocks; omega)
  rintro d2 _ _ _ _ _ n5 h5 rec2 ⟨e5, rfl, rfl, rfl, rfl, i, rfl, hi, hb⟩ hr2
  have wi := wrap_succ (show i < 9223372036854775807 by have := lx.blocks; omega)
  have g5 : h5.get n2 = some ⟨[i64 x.sig, vg, vb], .own⟩ := by rw [e5.no (by omega), g3]
  have sb5 := sb.keep (Kp.ev e5 (by omega)) (BloC.keep (Kp.ev e5 (by omega)))
  simp [wpS, wpM, g5, ldv_own, sb5.len, wk]
  refine ⟨fun hlt2 => ?_, fun hge2 => hr (d - 1) _ _ _ _ _ (by omega) ⟨Ev.more e3 e5, rfl, rfl, k + 1, by simp, by omega, all_succ ha hx ⟨hz4.1, hz4.2, all_end hb hge2⟩⟩⟩
  obtain ⟨bl, hbl, _⟩ := Sl.get hlt2
  have lb := lx.each bl (List.mem_of_getElem? hbl)
  have lc := lb.code
  refine Wp.loop6 (fun d3 x0 x1 x2 x3 x4 x5 n' h' => Ev No (n2 + 1) h3 n' h' ∧ x0 = pt bp 0 ∧ x1 = pt n 0 ∧ x2 = i64 (k : Int) ∧ x3 = pt n2 0 ∧ x4 = i64 (i : Int) ∧ ∃ (j : Nat), x5 = i64 (j : Int) ∧ j + d3 = bl.code.length + 1 ∧ (∀ c ∈ bl.code.take j, InsOk P x c) ∧ (j = bl.code.length + 1 → EndOk x bl)) ?_ (d := bl.code.length + 1) ⟨e5, rfl, rfl, rfl, rfl, rfl, 0, rfl, by omega, by simp, by omega⟩ (by omega)
  rintro d3 _ _ _ _ _ _ n6 h6 rec3 ⟨e6, rfl, rfl, rfl, rfl, rfl, j3, rfl, hj3, hc, hend⟩ hr3
  have wj := wrap_succ (show j3 < 9223372036854775807 by omega)
  have g6 : h6.get n2 = some ⟨[i64 x.sig, vg, vb], .own⟩ := by rw [e6.no (by omega), g3]
  have p6 := p3.keep (Kp.ev e6 (by omega))
  have sb6 := sb.keep (Kp.ev e6 (by omega)) (BloC.keep (Kp.ev e6 (by omega)))
  have sr6 := sr.keep (Kp.ev e6 (by omega)) fun _ _ h => h
  have le6 := e6.le
  obtain ⟨b3, o3, cs3, kd3, _, hix3, hb3, hk3, ⟨vc, rfl, sc, fb⟩, hcs3, _, hl3, hd3⟩ := sb6.at hbl
  have c3 : cs3[o3]? = _ := hcs3 0 _ rfl
  simp [wpS.1, wpS.2.1, wpS.2.2.1, wpS.2.2.2.2, wpM, g6, ldv_own, hix3, hb3, ldv_live hk3, c3, sc.len]
  refine ⟨fun hle => ?_, fun hgt => ?_⟩
  case refine_2 =>
    simp [wpS, wi]
    exact hr2 (d2 - 1) _ _ _ _ _ _ _ (by omega) ⟨e6, rfl, rfl, rfl, rfl, i + 1, by simp, by omega, all_succ hb hbl ⟨all_end hc (by omega), hend (by omega)⟩⟩
  -- the join: right, on; wrong, back
  refine Wp.jn (fun j => ∀ z n' h', Ev No (n2 + 1) h3 n' h' → (z = false → (∀ c ∈ bl.code.take (j3 + 1), InsOk P x c) ∧ (j3 = bl.code.length → EndOk x bl)) → Wp (j (pt bp 0) (pt n 0) (i64 (k : Int)) (pt n2 0) (i64 (i : Int)) (i64 (j3 : Int)) (bo z)) n' h' Q) ?_ fun j4 hj4 => ?_
  case refine_1 =>
    intro z n7 h7 e7 hz7
    refine Wp.bool.2 ⟨fun _ => ?_, fun hz => ?_⟩
    · have g7 := k0 (Ev.more e3 e7)
      have le7 := e7.le
      have := q false ⟨k, i, j3⟩ _ _ ((Ev.more e0 (Ev.more e3 e7)).set (b := n) ⟨[i64 (k : Int), i64 (i : Int), i64 (j3 : Int)], .own⟩ (by omega) (by omega)) (by simp)
      simpa [wpS, wpM, g7, wsn, ldn, over, rep, fillA, oneS, H.get_set_same] using this
    · simp [wpS, wj]
      exact hr3 (d3 - 1) _ _ _ _ _ _ _ _ (by omega) ⟨e7, rfl, rfl, rfl, rfl, rfl, j3 + 1, by simp, by omega, (hz7 hz).1, fun h => (hz7 hz).2 (by omega)⟩
  simp [wpS.1, wpS.2.1, wpS.2.2.1, wpS.2.2.2.2, wpM, g6, ldv_own, hix3, hb3, ldv_live hk3, c3, sc.len, ldn]
  refine ⟨fun hlt3 => ?_, fun hge3 => ?_⟩
  · obtain ⟨c, hc2, _⟩ := Sl.get hlt3
    have la := lb.args c (List.mem_of_getElem? hc2)
    obtain ⟨b4, o4, cs4, kd4, _, hix4, hb4, hk4, ⟨va, rfl, sa, _⟩, hcs4, _, hl4, hd4⟩ := sc.at hc2
    simp [hix4, wpM, hb4, ldn_live hk4, hl4, hd4]
    refine Wp.cl (R := fun v n' h' => ∃ z, bo z = v ∧ Ev No n6 h6 n' h' ∧ (z = true → InsOk P x c)) (instr_wp p6 (x := x) (i := c) sr6 sb6.one sa hz4.2 (by omega) hF e6.f (by omega) fun z n' h' e' hz => ⟨z, rfl, e', hz⟩) ?_
    rintro _ n7 h7 ⟨z, rfl, e7, hz7⟩
    have e8 := Ev.more e6 e7
    have g8 : h7.get n2 = some ⟨[i64 x.sig, vg, vb], .own⟩ := by rw [e8.no (by omega), g3]
    have sb8 := sb.keep (Kp.ev e8 (by omega)) (BloC.keep (Kp.ev e8 (by omega)))
    obtain ⟨b5, o5, cs5, kd5, _, hix5, hb5, hk5, ⟨vc5, rfl, sc5, _⟩, hcs5, _, hl5, hd5⟩ := sb8.at hbl
    have c5 : cs5[o5]? = _ := hcs5 0 _ rfl
    simp [wpS.1, wpS.2.1, wpS.2.2.1, wpS.2.2.2.2, wpM, g8, ldv_own, hix5, hb5, ldv_live hk5, c5, sc5.len]
    refine ⟨fun _ => hj4 _ _ _ e8 (by simp), fun hz => ⟨fun h => by omega, fun h => hj4 _ _ _ e8 fun _ => ⟨all_succ hc hc2 (hz7 hz), fun h => by omega⟩⟩⟩
  · refine ⟨fun heq => ?_, fun hne => by omega⟩
    simp [wpM, ldn_live hk3, hl3, hd3]
    refine Wp.cl (R := fun v n' h' => ∃ z, bo z = v ∧ Ev No n6 h6 n' h' ∧ (z = true → EndOk x bl)) (ending_wp (x := x) (b := bl) (v := vg) (w := vb) (u := vc) sr6 sb6 sc.one e6.f (by omega) fun z n' h' e' hz => ⟨z, rfl, e', hz⟩) ?_
    rintro _ n7 h7 ⟨z, rfl, e7, hz7⟩
    have e8 := Ev.more e6 e7
    simp [wpS.1, wpS.2.1, wpS.2.2.1, wpS.2.2.2.2]
    exact hj4 _ _ _ e8 fun hz => ⟨fun c h => hc c (by rwa [List.take_of_length_le (by omega)] at h ⊢), fun _ => hz7 (by simpa using hz)⟩
end Go.Fn
end
section
set_option linter.unusedVariables false
namespace Go.Fn
open Go Go.Fw

def szs (bs : List Blo) : Nat := (bs.map fun b => b.code.length + 1).sum
def szf (fs : List Fun) : Nat := (fs.map fun x => szs x.blocks).sum
theorem szs_cons (b : Blo) (r : List Blo) : szs (b :: r) = (b.code.length + 1) + szs r := by simp [szs]
theorem szf_cons (b : Fun) (r : List Fun) : szf (b :: r) = szs b.blocks + szf r := by simp [szf]

theorem ptsI_get {f b m a : Nat} : (ptsI f b 0 m)[a]? = if a < m then some ⟨f, b, a⟩ else none := by
  unfold ptsI
  rw [List.getElem?_map]
  by_cases h : a < m
  · rw [if_pos h, List.getElem?_range' h]; simp
  · rw [if_neg h, List.getElem?_eq_none (by simp; omega)]; rfl
theorem ptsI_len {f b i m : Nat} : (ptsI f b i m).length = m := by simp [ptsI]
theorem ptsBs_len {f : Nat} : ∀ (bs : List Blo) (k : Nat), (ptsBs f bs k).length = szs bs
  | [], k => rfl
  | b :: r, k => by
    show (ptsI f k 0 (b.code.length + 1) ++ ptsBs f r (k + 1)).length = _
    rw [List.length_append, ptsI_len, ptsBs_len r, szs_cons]
theorem ptsFs_len : ∀ (fs : List Fun) (k : Nat), (ptsFs fs k).length = szf fs
  | [], k => rfl
  | x :: r, k => by
    show (ptsBs k x.blocks 0 ++ ptsFs r (k + 1)).length = _
    rw [List.length_append, ptsBs_len, ptsFs_len r, szf_cons]

theorem ptsBs_at {f : Nat} {q : Pt} : ∀ (bs : List Blo) (k a : Nat), (ptsBs f bs k)[a]? = some q ↔ ∃ (j i : Nat) (bl : Blo), q = ⟨f, (k + j : Nat), i⟩ ∧ bs[j]? = some bl ∧ i ≤ bl.code.length ∧ a = szs (bs.take j) + i
  | [], k, a => by simp [ptsBs]
  | b :: r, k, a => by
    show (ptsI f k 0 (b.code.length + 1) ++ ptsBs f r (k + 1))[a]? = _ ↔ _
    rcases Nat.lt_or_ge a (b.code.length + 1) with h | h
    · rw [List.getElem?_append_left (by rw [ptsI_len]; exact h), ptsI_get, if_pos h]
      constructor
      · intro e
        cases e
        exact ⟨0, a, b, rfl, rfl, by omega, by simp [szs]⟩
      · rintro ⟨j, i, bl, rfl, h1, h2, h3⟩
        cases j with
        | zero => simp [szs] at h3; subst h3; rfl
        | succ j => rw [List.take_succ_cons, szs_cons] at h3; omega
    · rw [List.getElem?_append_right (by rw [ptsI_len]; exact h), ptsI_len, ptsBs_at r]
      constructor
      · rintro ⟨j, i, bl, rfl, h1, h2, h3⟩
        exact ⟨j + 1, i, bl, by simp; omega, h1, h2, by rw [List.take_succ_cons, szs_cons]; omega⟩
      · rintro ⟨j, i, bl, rfl, h1, h2, h3⟩
        cases j with
        | zero => simp [szs] at h1 h3; subst h1; omega
        | succ j => rw [List.take_succ_cons, szs_cons] at h3; exact ⟨j, i, bl, by simp; omega, h1, h2, by omega⟩
theorem ptsFs_at {q : Pt} : ∀ (fs : List Fun) (k a : Nat), (ptsFs fs k)[a]? = some q ↔ ∃ (j jb i : Nat) (fn : Fun) (bl : Blo), q = ⟨(k + j : Nat), jb, i⟩ ∧ fs[j]? = some fn ∧ fn.blocks[jb]? = some bl ∧ i ≤ bl.code.length ∧ a = szf (fs.take j) + szs (fn.blocks.take jb) + i
  | [], k, a => by simp [ptsFs]
  | x :: r, k, a => by
    show (ptsBs k x.blocks 0 ++ ptsFs r (k + 1))[a]? = _ ↔ _
    rcases Nat.lt_or_ge a (szs x.blocks) with h | h
    · rw [List.getElem?_append_left (by rw [ptsBs_len]; exact h), ptsBs_at]
      constructor
      · rintro ⟨j, i, bl, rfl, h1, h2, h3⟩
        exact ⟨0, j, i, x, bl, by simp, rfl, h1, h2, by simp [szf]; omega⟩
      · rintro ⟨j, jb, i, fn, bl, rfl, h1, h2, h3, h4⟩
        cases j with
        | zero => simp at h1; subst h1; exact ⟨jb, i, bl, by simp, h2, h3, by simp [szf] at h4; omega⟩
        | succ j => rw [List.take_succ_cons, szf_cons] at h4; omega
    · rw [List.getElem?_append_right (by rw [ptsBs_len]; exact h), ptsBs_len, ptsFs_at r]
      constructor
      · rintro ⟨j, jb, i, fn, bl, rfl, h1, h2, h3, h4⟩
        exact ⟨j + 1, jb, i, fn, bl, by simp; omega, h1, h2, h3, by rw [List.take_succ_cons, szf_cons]; omega⟩
      · rintro ⟨j, jb, i, fn, bl, rfl, h1, h2, h3, h4⟩
        cases j with
        | zero =>
          simp at h1; subst h1
          have : szs (x.blocks.take jb) + i < szs x.blocks := by
            have e := (ptsBs_at (f := k) (q := ⟨k, (0 + jb : Nat), i⟩) x.blocks 0 (szs (x.blocks.take jb) + i)).2 ⟨jb, i, bl, rfl, h2, h3, rfl⟩
            have := (List.getElem?_eq_some_iff.1 e).1
            rwa [ptsBs_len] at this
          simp [szf] at h4; omega
        | succ j => rw [List.take_succ_cons, szf_cons] at h4; exact ⟨j, jb, i, fn, bl, by simp; omega, h1, h2, h3, by omega⟩
/-- Who stands at a number. -/
theorem points_at {P : Pg} {a : Nat} {q : Pt} : (pointsP P)[a]? = some q ↔ ∃ (j jb i : Nat) (fn : Fun) (bl : Blo), q = ⟨j, jb, i⟩ ∧ P.funcs[j]? = some fn ∧ fn.blocks[jb]? = some bl ∧ i ≤ bl.code.length ∧ a = szf (P.funcs.take j) + szs (fn.blocks.take jb) + i := by
  unfold pointsP
  rw [ptsFs_at]
  simp
theorem points_inj {P : Pg} {a b : Nat} {q : Pt} (h1 : (pointsP P)[a]? = some q) (h2 : (pointsP P)[b]? = some q) : a = b := by
  obtain ⟨j, jb, i, fn, bl, rfl, g1, g2, g3, g4⟩ := points_at.1 h1
  obtain ⟨j', jb', i', fn', bl', e, k1, k2, k3, k4⟩ := points_at.1 h2
  simp only [Pt.mk.injEq, Int.natCast_inj] at e
  obtain ⟨rfl, rfl, rfl⟩ := e
  rw [g1] at k1; cases k1
  omega

theorem numF_some {q : Pt} : ∀ (l : List Pt) (k : Int), q ∈ l → ∃ a : Nat, numF q l k = k + a ∧ l[a]? = some q
  | [], _, h => by cases h
  | x :: l, k, h => by
    rw [numF]
    split
    · rename_i e; exact ⟨0, by simp, by simp [e]⟩
    · rename_i e
      obtain ⟨a, h1, h2⟩ := numF_some l (k + 1) (by
        rcases List.mem_cons.1 h with h | h
        · exact absurd h.symm e
        · exact h)
      exact ⟨a + 1, by rw [h1]; push_cast; omega, by simpa using h2⟩
theorem numP_eq {P : Pg} {q : Pt} {a : Nat} (h : (pointsP P)[a]? = some q) : numP P q = a := by
  obtain ⟨b, h1, h2⟩ := numF_some (pointsP P) 0 (List.mem_of_getElem? h)
  rw [numP, h1, points_inj h h2]; simp

/-- A point there is. -/
def PtOk (P : Pg) (q : Pt) : Prop := ∃ fn bl, getI P.funcs q.f = some fn ∧ getI fn.blocks q.b = some bl ∧ 0 ≤ q.i ∧ q.i ≤ bl.code.length
theorem getI_some {α : Type} {l : List α} {z : Int} {y : α} (h : getI l z = some y) : ∃ k : Nat, z = (k : Int) ∧ l[k]? = some y := by
  unfold getI at h
  split at h
  · exact ⟨z.toNat, by omega, h⟩
  · cases h
theorem PtOk.num {P : Pg} {q : Pt} (h : PtOk P q) : ∃ a : Nat, (pointsP P)[a]? = some q ∧ numP P q = a := by
  obtain ⟨f, b, i⟩ := q
  obtain ⟨fn, bl, h1, h2, h3, h4⟩ := h
  obtain ⟨j, rfl, g1⟩ := getI_some h1
  obtain ⟨jb, rfl, g2⟩ := getI_some h2
  dsimp only at h3 h4
  obtain ⟨k, rfl⟩ : ∃ k : Nat, i = k := ⟨i.toNat, by omega⟩
  have e := points_at.2 ⟨j, jb, k, fn, bl, rfl, g1, g2, by omega, rfl⟩
  exact ⟨_, e, numP_eq e⟩
theorem PtOk.of {P : Pg} {q : Pt} {a : Nat} (h : (pointsP P)[a]? = some q) : PtOk P q := by
  obtain ⟨j, jb, i, fn, bl, rfl, g1, g2, g3, g4⟩ := points_at.1 h
  exact ⟨fn, bl, by rw [getI_nat]; exact g1, by rw [getI_nat]; exact g2, by dsimp only; omega, by dsimp only; omega⟩
/-! ## What comes behind a point -/

/-- Where a block's end leads. -/
def outsP (bl : Blo) : List Int := if bl.fin = 1 then [bl.to] else if bl.fin = 2 then (if bl.els ≠ bl.to then [bl.to, bl.els] else [bl.to]) else []
/-- The points behind one. -/
def nextP (P : Pg) (q : Pt) : List Pt :=
  match getI P.funcs q.f with
  | none => []
  | some fn => match getI fn.blocks q.b with
    | none => []
    | some bl => if q.i < 0 ∨ q.i > bl.code.length then [] else if q.i < bl.code.length then [⟨q.f, q.b, q.i + 1⟩]
      else ((outsP bl).filter fun t => decide (0 ≤ t ∧ t < (fn.blocks.length : Int))).map fun t => ⟨q.f, t, 0⟩
theorem nextP_ok {P : Pg} {q q' : Pt} (h : q' ∈ nextP P q) : PtOk P q ∧ PtOk P q' ∧ q'.f = q.f := by
  unfold nextP at h
  split at h
  · cases h
  rename_i fn hf
  split at h
  · cases h
  rename_i bl hb
  split at h
  · cases h
  rename_i hr
  have hq : PtOk P q := ⟨fn, bl, hf, hb, by omega, by omega⟩
  split at h
  · simp at h; subst h
    exact ⟨hq, ⟨fn, bl, hf, hb, by dsimp only; omega, by dsimp only; omega⟩, rfl⟩
  · obtain ⟨t, h1, rfl⟩ := List.mem_map.1 h
    have h1 := (List.mem_filter.1 h1).2
    simp only [decide_eq_true_eq] at h1
    obtain ⟨k, bl2, rfl, e1, _⟩ := getI_of h1
    exact ⟨hq, ⟨fn, bl2, hf, e1, by simp, by simp⟩, rfl⟩
end Go.Fn
end
section
set_option linter.unusedVariables false
namespace Go.Fn
open Go Go.Fw

variable {F n : Nat} {h : H} {Q : Post}

theorem cl_typ {n0 : Nat} {x : Fun} {v w : V} {r : Int} {t : Ty} {K : V → St} (sr : SlR h n0 2 TyC v x.regs) (hw : one w = true) (hr : getI x.regs r = some t) (f : Fr n h) (hn : n0 ≤ n) (k : ∀ n' h', Ev No n h n' h' → Wp (K (tyV t)) n' h' Q) : Wp (cl (R8_typ F (funV x v w) (i64 r)) K) n h Q := by
  obtain ⟨kr, rfl, hr⟩ := getI_some hr
  refine Wp.cl (R := fun v n' h' => Ev No n h n' h' ∧ tyV t = v) (typ_wp sr hw hr f hn fun n' h' e => ⟨e, rfl⟩) ?_
  rintro v n' h' ⟨e, rfl⟩
  exact k _ _ e
theorem cl_eq {t u : Ty} {K : V → St} (f : Fr n h) (k : ∀ n' h', Ev No n h n' h' → Wp (K (bo (decide (t = u)))) n' h' Q) : Wp (cl (R8_eq F (tyV t) (tyV u)) K) n h Q := by
  refine Wp.cl (R := fun v n' h' => Ev No n h n' h' ∧ bo (decide (t = u)) = v) (eq_wp (t := t) (u := u) f fun n' h' e => ⟨e, rfl⟩) ?_
  rintro v n' h' ⟨e, rfl⟩
  exact k _ _ e

structure FitOk (P : Pg) (x : Fun) (i : Ins) : Prop where
  f5 : i.op = 5 → ∃ t, getI x.regs i.dst = some t ∧ t.1 = 1
  f6 : i.op = 6 → getI x.regs i.dst = getI x.regs i.a
  f7 : i.op = 7 → ∃ t rc u, getI x.regs i.a = some t ∧ t.1 = 1 ∧ getI P.recs t.2 = some rc ∧ getI rc i.n = some u ∧ getI x.regs i.dst = some u
  f8 : i.op = 8 → ∃ t rc u, getI x.regs i.a = some t ∧ t.1 = 1 ∧ getI P.recs t.2 = some rc ∧ getI rc i.n = some u ∧ getI x.regs i.b = some u
  f10 : i.op = 10 → ∃ g, getI P.funcs i.n = some g ∧ getI x.regs i.dst = some (2, g.sig)
  f11 : i.op = 11 → ∃ t u, getI x.regs i.dst = some t ∧ t.1 = 3 ∧ getI x.regs i.a = some u ∧ u.1 = 1
  f12 : i.op = 12 → ∃ g s, getI P.funcs i.n = some g ∧ getI P.sigs g.sig = some s ∧ CallOk x i s
  f13 : i.op = 13 → ∃ t s, getI x.regs i.a = some t ∧ t.1 = 2 ∧ getI P.sigs t.2 = some s ∧ CallOk x i s
  f14 : i.op = 14 → ∃ t fc z s, getI x.regs i.a = some t ∧ t.1 = 3 ∧ getI P.ifs t.2 = some fc ∧ getI fc i.n = some z ∧ getI P.sigs z = some s ∧ CallOk x i s

theorem named1 {P : Pg} {t : Ty} (h : namedP P t = true) (h1 : t.1 = 1) : 0 ≤ t.2 ∧ t.2 < (P.recs.length : Int) := by
  unfold namedP at h; rw [if_neg (by omega), if_pos h1] at h; exact of_decide_eq_true h
theorem named2 {P : Pg} {t : Ty} (h : namedP P t = true) (h1 : t.1 = 2) : 0 ≤ t.2 ∧ t.2 < (P.sigs.length : Int) := by
  unfold namedP at h; rw [if_neg (by omega), if_neg (by omega), if_pos h1] at h; exact of_decide_eq_true h
theorem named3 {P : Pg} {t : Ty} (h : namedP P t = true) (h1 : t.1 = 3) : 0 ≤ t.2 ∧ t.2 < (P.ifs.length : Int) := by
  unfold namedP at h; rw [if_neg (by omega), if_neg (by omega), if_neg (by omega), if_pos h1] at h; exact of_decide_eq_true h
/-- The same place in a later heap. -/
theorem Sl.atI {s : Nat} {α : Type} {B : Nat → Prop} {E : List V → α → Prop} {v : V} {xs : List α} (x : Sl h B s E v xs) {z : Int} {y : α} (hy : getI xs z = some y) : ∃ b o cs kd es, (∀ (K : V → St) (n : Nat) (Q : Post), Wp (kIndexAddr s v (i64 z) K) n h Q ↔ Wp (K (pt b o)) n h Q) ∧ h.get b = some ⟨cs, kd⟩ ∧ kd ≠ .dead ∧ E es y ∧
    (∀ f u, es[f]? = some u → cs[o + f]? = some u) ∧ B b ∧ o + s ≤ cs.length ∧ (cs.drop o).take s = es := by
  obtain ⟨k, rfl, hy⟩ := getI_some hy
  exact x.at hy

theorem fits_wp {n0 : Nat} {P : Pg} {bp : Nat} {vr vs vi vm vf : V} (p : Prg h n0 P bp vr vs vi vm vf) (nm : Nm P) (lm : Lm P) {x : Fun} {i : Ins} {v w va : V} (hx : x ∈ P.funcs) (sr : SlR h n0 2 TyC v x.regs) (sb : SlR h n0 5 (BloC h n0) w x.blocks) (sa : SlR h n0 1 IntC va i.args) (hl : i.args.length < 100000) (hF : 100000 < F)
    (f : Fr n h) (hn : n0 ≤ n) (q : ∀ z n' h', Ev No n h n' h' → (z = true → FitOk P x i) → Q (bo z) n' h') : Wp (R8_Fits F (pt bp 0) (funV x v w) (insV i va)) n h Q := by
  unfold R8_Fits
  have hw := sb.one
  have vw := sb.veq
  have vv := sr.veq
  have vaa := sa.veq
  have vvr := p.recs.veq
  have vvs := p.sigs.veq
  have vvi := p.ifs.veq
  have vvf := p.funcs.veq
  have e := (Ev.start f).new ⟨[i64 x.sig, v, w], .own⟩
  refine (Wp.boxNI f).2 ⟨by simp [oneS, sr.one, hw], ?_⟩
  refine (Wp.boxNI e.f).2 ⟨by simp [oneS, sa.one], ?_⟩
  have e2 := e.new ⟨[i64 i.op, i64 i.dst, i64 i.a, i64 i.b, i64 i.n, va], .own⟩
  simp only [List.toList_toArray]
  generalize hh : (h.set n ⟨[i64 x.sig, v, w], .own⟩).set (n + 1) ⟨[i64 i.op, i64 i.dst, i64 i.a, i64 i.b, i64 i.n, va], .own⟩ = h2 at e2
  have g0 : h2.get n = some ⟨[i64 x.sig, v, w], .own⟩ := by rw [← hh, H.get_set_ne _ _ (by omega), H.get_set_same]
  have g1 : h2.get (n + 1) = some ⟨[i64 i.op, i64 i.dst, i64 i.a, i64 i.b, i64 i.n, va], .own⟩ := by rw [← hh, H.get_set_same]
  have fx := nm.funcs x hx
  have st : ∀ {n' h'}, Ev No (n + 1 + 1) h2 n' h' → h'.get n = some ⟨[i64 x.sig, v, w], .own⟩ ∧ h'.get (n + 1) = some ⟨[i64 i.op, i64 i.dst, i64 i.a, i64 i.b, i64 i.n, va], .own⟩ ∧ Prg h' n0 P bp vr vs vi vm vf ∧ SlR h' n0 2 TyC v x.regs ∧ SlR h' n0 1 IntC va i.args ∧ n + 1 + 1 ≤ n' := fun e' =>
    ⟨by rw [e'.no (by omega), g0], by rw [e'.no (by omega), g1], p.keep (Kp.ev (Ev.more e2 e') hn), sr.keep (Kp.ev (Ev.more e2 e') hn) fun _ _ h => h, sa.keep (Kp.ev (Ev.more e2 e') hn) fun _ _ h => h, e'.le⟩
  obtain ⟨_, _, p2, sr2, sa2, _⟩ := st (Ev.start e2.f)
  simp [wpM, g0, g1, ldn]
  refine Wp.cl (R := fun v n' h' => ∃ z, bo z = v ∧ Ev No (n + 1 + 1) h2 n' h' ∧ (z = true → InsOk P x i)) (instr_wp p2 (x := x) (i := i) sr2 hw sa2 fx.regs hl hF e2.f (by omega) fun z n' h' e' hz => ⟨z, rfl, e', hz⟩) ?_
  rintro _ n3 h3 ⟨z, rfl, e3, hz⟩
  have qf : ∀ {n' h'}, Ev No (n + 1 + 1) h2 n' h' → Q (bo false) n' h' := fun e' => q false _ _ (Ev.more e2 e') (by simp)
  refine (Wp.eq st_not).2 (Wp.bool.2 ⟨fun _ => Wp.retI.2 (qf e3), fun hz2 => ?_⟩)
  have ok := hz (by simpa using hz2)
  obtain ⟨⟨o1, o2⟩, od, ou, o7, o10, o14⟩ := ok
  have rd : ∀ r, 0 ≤ r ∧ r < (x.regs.length : Int) → ∃ t, getI x.regs r = some t ∧ namedP P t = true := fun r hr => by
    obtain ⟨k, t, rfl, h1, h2, _⟩ := getI_of hr
    exact ⟨t, h1, fx.regs t (List.mem_of_getElem? h2)⟩
  have rdst : ∀ d, defP i = some d → ∃ t, getI x.regs d = some t ∧ namedP P t = true := fun d hd => rd d (od d hd)
  have ruse : ∀ r ∈ usesP i, ∃ t, getI x.regs r = some t ∧ namedP P t = true := fun r hr => rd r (ou r hr)
  have hdef : i.op ≠ 8 → i.op ≠ 9 → i.op ≠ 15 → defP i = some i.dst := fun h1 h2 h3 => by unfold defP; rw [if_neg (by omega)]
  obtain ⟨k0, k1, p3, sr3, sa3, le3⟩ := st e3
  have q' : ∀ {n' h'} (z : Bool), Ev No (n + 1 + 1) h2 n' h' → (z = true → FitOk P x i) → Q (bo z) n' h' := fun z e' hz => q z _ _ (Ev.more e2 e') hz
  by_cases c13 : i.op = 1 ∨ i.op = 3
  · obtain ⟨t, ht, _⟩ := rdst _ (hdef (by omega) (by omega) (by omega))
    have fin : ∀ {n' h'} (z : Bool), Ev No (n + 1 + 1) h2 n' h' → Q (bo z) n' h' := fun z e' => q' z e' fun _ => by constructor <;> intro hc <;> omega
    rcases c13 with c | c <;> simp [wpS, wpM, wpN, k0, k1, ldv_own, c, ldn] <;> refine cl_typ sr3 hw ht e3.f (by omega) fun n4 h4 e4 => ?_ <;> simp [wpS, wpN] <;> exact fin _ (Ev.more e3 e4)
  simp only [not_or] at c13
  by_cases c2 : i.op = 2
  · have fin : ∀ {n' h'} (z : Bool), Ev No (n + 1 + 1) h2 n' h' → Q (bo z) n' h' := fun z e' => q' z e' fun _ => by constructor <;> intro hc <;> omega
    obtain ⟨t, ht, _⟩ := rdst _ (hdef (by omega) (by omega) (by omega))
    obtain ⟨ta, hta, _⟩ := ruse i.a (by simp [usesP, c2])
    obtain ⟨tb, htb, _⟩ := ruse i.b (by simp [usesP, c2])
    simp [wpS, wpM, wpN, k0, k1, ldv_own, c2, ldn]
    refine cl_typ sr3 hw ht e3.f (by omega) fun n4 h4 e4 => ?_
    have e4 := Ev.more e3 e4
    obtain ⟨j0, j1, p4, sr4, sa4, le4⟩ := st e4
    simp [wpS, wpM, wpN, j0, j1, ldv_own, ldn]
    refine ⟨fun _ => ?_, fun _ => qf e4⟩
    refine cl_typ sr4 hw hta e4.f (by omega) fun n5 h5 e5 => ?_
    have e5 := Ev.more e4 e5
    obtain ⟨j0, j1, p5, sr5, sa5, le5⟩ := st e5
    simp [wpS, wpM, wpN, j0, j1, ldv_own, ldn]
    refine ⟨fun _ => ?_, fun _ => qf e5⟩
    refine cl_typ sr5 hw htb e5.f (by omega) fun n6 h6 e6 => ?_
    simp [wpS, wpN]
    exact fin _ (Ev.more e5 e6)
  by_cases c4 : i.op = 4
  · obtain ⟨t, ht, _⟩ := rdst _ (hdef (by omega) (by omega) (by omega))
    simp [wpS, wpM, wpN, k0, k1, ldv_own, c4, ldn]
    refine cl_typ sr3 hw ht e3.f (by omega) fun n4 h4 e4 => ?_
    simp [wpS, wpN]
    exact q' _ (Ev.more e3 e4) fun _ => by constructor <;> intro hc <;> omega
  by_cases c5 : i.op = 5
  · obtain ⟨t, ht, _⟩ := rdst _ (hdef (by omega) (by omega) (by omega))
    simp [wpS, wpM, wpN, k0, k1, ldv_own, c5, ldn]
    refine cl_typ sr3 hw ht e3.f (by omega) fun n4 h4 e4 => ?_
    simp [wpS, wpN]
    refine q' _ (Ev.more e3 e4) fun hz => by
      constructor <;> intro hc <;> first | omega | exact ⟨t, ht, by simpa using hz⟩
  by_cases c6 : i.op = 6
  · obtain ⟨t, ht, _⟩ := rdst _ (hdef (by omega) (by omega) (by omega))
    obtain ⟨ta, hta, _⟩ := ruse i.a (by simp [usesP, c6])
    simp [wpS, wpM, wpN, k0, k1, ldv_own, c6, ldn]
    refine cl_typ sr3 hw ht e3.f (by omega) fun n4 h4 e4 => ?_
    have e4 := Ev.more e3 e4
    obtain ⟨j0, j1, p4, sr4, sa4, le4⟩ := st e4
    simp [wpS, wpM, wpN, j0, j1, ldv_own, ldn, veqS, vv, vw]
    refine cl_typ sr4 hw hta e4.f (by omega) fun n5 h5 e5 => ?_
    have e5 := Ev.more e4 e5
    refine cl_eq e5.f fun n6 h6 e6 => ?_
    simp only [wpS]
    exact q' _ (Ev.more e5 e6) fun hz => by
      constructor <;> intro hc <;> first | omega | (rw [ht, hta, of_decide_eq_true hz])
  by_cases c7 : i.op = 7
  · obtain ⟨t, ht, _⟩ := rdst _ (hdef (by omega) (by omega) (by omega))
    obtain ⟨ta, hta, nta⟩ := ruse i.a (by simp [usesP, c7])
    simp [wpS, wpM, wpN, k0, k1, ldv_own, c7, ldn]
    refine cl_typ sr3 hw hta e3.f (by omega) fun n4 h4 e4 => ?_
    have e4 := Ev.more e3 e4
    obtain ⟨j0, j1, p4, sr4, sa4, le4⟩ := st e4
    simp [wpS, wpM, wpN, j0, j1, ldv_own, ldn, p4.at_, ldv_ro]
    refine ⟨fun ct => ?_, fun _ => qf e4⟩
    refine cl_typ sr4 hw hta e4.f (by omega) fun n5 h5 e5 => ?_
    have e5 := Ev.more e4 e5
    obtain ⟨j0, j1, p5, sr5, sa5, le5⟩ := st e5
    obtain ⟨kc, rc, hkc, hc1, hc2, _⟩ := getI_of (named1 nta ct)
    have hn1 := o7 (.inl c7) ta rc hta ct hc1
    obtain ⟨kn, u, hkn, hu1, hu2, _⟩ := getI_of hn1
    obtain ⟨b3, ob3, cs3, kd3, _, hix3, hb3, hk3, ⟨vc, rfl, sc⟩, hcs3, lt3, _⟩ := p5.recs.atI hc1
    have c3 : cs3[ob3]? = _ := hcs3 0 _ rfl
    obtain ⟨b4, ob4, cs4, kd4, _, hix4, hb4, hk4, ⟨rfl, _⟩, hcs4, lt4, hl4, hd4⟩ := sc.atI hu1
    simp [wpS, wpM, wpN, j0, j1, ldv_own, ldn, veqS, vv, vw, p5.at_, ldv_ro, vvr, hix3, hb3, ldv_live hk3, c3, hix4, hb4, ldn_live hk4, hl4, hd4]
    refine cl_typ sr5 hw ht e5.f (by omega) fun n6 h6 d6 => ?_
    have e6 := Ev.more e5 d6
    obtain ⟨j0, j1, p6, sr6, sa6, le6⟩ := st e6
    have b3' : h6.get b3 = some ⟨cs3, kd3⟩ := (Kp.ev d6 (by omega) b3 lt3).trans hb3
    have b4' : h6.get b4 = some ⟨cs4, kd4⟩ := (Kp.ev d6 (by omega) b4 lt4).trans hb4
    simp [wpS, wpM, wpN, j0, j1, ldv_own, ldn, veqS, vv, vw, p6.at_, vvr, b3', ldn_live hk3, take1 c3, lt1 c3, sc.veq, b4', ldn_live hk4, hl4, hd4]
    refine cl_eq e6.f fun n7 h7 e7 => ?_
    simp only [wpS]
    exact q' _ (Ev.more e6 e7) fun hz => by
      constructor <;> intro hc <;> first | omega | exact ⟨ta, rc, u, hta, ct, hc1, hu1, by rw [ht, of_decide_eq_true hz]⟩
  by_cases c8 : i.op = 8
  · obtain ⟨t, ht, _⟩ := ruse i.b (by simp [usesP, c8])
    obtain ⟨ta, hta, nta⟩ := ruse i.a (by simp [usesP, c8])
    simp [wpS, wpM, wpN, k0, k1, ldv_own, c8, ldn]
    refine cl_typ sr3 hw hta e3.f (by omega) fun n4 h4 e4 => ?_
    have e4 := Ev.more e3 e4
    obtain ⟨j0, j1, p4, sr4, sa4, le4⟩ := st e4
    simp [wpS, wpM, wpN, j0, j1, ldv_own, ldn, p4.at_, ldv_ro]
    refine ⟨fun ct => ?_, fun _ => qf e4⟩
    refine cl_typ sr4 hw hta e4.f (by omega) fun n5 h5 e5 => ?_
    have e5 := Ev.more e4 e5
    obtain ⟨j0, j1, p5, sr5, sa5, le5⟩ := st e5
    obtain ⟨kc, rc, hkc, hc1, hc2, _⟩ := getI_of (named1 nta ct)
    have hn1 := o7 (.inr c8) ta rc hta ct hc1
    obtain ⟨kn, u, hkn, hu1, hu2, _⟩ := getI_of hn1
    obtain ⟨b3, ob3, cs3, kd3, _, hix3, hb3, hk3, ⟨vc, rfl, sc⟩, hcs3, lt3, _⟩ := p5.recs.atI hc1
    have c3 : cs3[ob3]? = _ := hcs3 0 _ rfl
    obtain ⟨b4, ob4, cs4, kd4, _, hix4, hb4, hk4, ⟨rfl, _⟩, hcs4, lt4, hl4, hd4⟩ := sc.atI hu1
    simp [wpS, wpM, wpN, j0, j1, ldv_own, ldn, veqS, vv, vw, p5.at_, ldv_ro, vvr, hix3, hb3, ldv_live hk3, c3, hix4, hb4, ldn_live hk4, hl4, hd4]
    refine cl_typ sr5 hw ht e5.f (by omega) fun n6 h6 d6 => ?_
    have e6 := Ev.more e5 d6
    obtain ⟨j0, j1, p6, sr6, sa6, le6⟩ := st e6
    have b3' : h6.get b3 = some ⟨cs3, kd3⟩ := (Kp.ev d6 (by omega) b3 lt3).trans hb3
    have b4' : h6.get b4 = some ⟨cs4, kd4⟩ := (Kp.ev d6 (by omega) b4 lt4).trans hb4
    simp [wpS, wpM, wpN, j0, j1, ldv_own, ldn, veqS, vv, vw, p6.at_, vvr, b3', ldn_live hk3, take1 c3, lt1 c3, sc.veq, b4', ldn_live hk4, hl4, hd4]
    refine cl_eq e6.f fun n7 h7 e7 => ?_
    simp only [wpS]
    exact q' _ (Ev.more e6 e7) fun hz => by
      constructor <;> intro hc <;> first | omega | exact ⟨ta, rc, u, hta, ct, hc1, hu1, by rw [ht, of_decide_eq_true hz]⟩
  by_cases c9 : i.op = 9 ∨ i.op = 15
  · have fin : ∀ {n' h'} (z : Bool), Ev No (n + 1 + 1) h2 n' h' → Q (bo z) n' h' := fun z e' => q' z e' fun _ => by constructor <;> intro hc <;> omega
    obtain ⟨t, ht, _⟩ := ruse i.a (by rcases c9 with c | c <;> simp [usesP, c])
    rcases c9 with c | c <;> simp [wpS, wpM, wpN, k0, k1, ldv_own, c, ldn] <;> refine cl_typ sr3 hw ht e3.f (by omega) fun n4 h4 e4 => ?_ <;> simp [wpS, wpN] <;> exact fin _ (Ev.more e3 e4)
  simp only [not_or] at c9
  obtain ⟨c9, c15⟩ := c9
  by_cases c10 : i.op = 10
  · obtain ⟨t, ht, _⟩ := rdst _ (hdef (by omega) (by omega) (by omega))
    simp [wpS, wpM, wpN, k0, k1, ldv_own, c10, ldn]
    refine cl_typ sr3 hw ht e3.f (by omega) fun n4 h4 e4 => ?_
    have e4 := Ev.more e3 e4
    obtain ⟨j0, j1, p4, sr4, sa4, le4⟩ := st e4
    obtain ⟨kc, g, hkc, hc1, hc2, _⟩ := getI_of (o10 (.inl c10))
    obtain ⟨b3, ob3, cs3, kd3, _, hix3, hb3, hk3, ⟨vg, vb, rfl, sgr, sgb, _⟩, hcs3, lt3, _⟩ := p4.funcs.atI hc1
    have c3 : cs3[ob3]? = _ := hcs3 0 _ rfl
    simp [wpS, wpM, wpN, j0, j1, ldv_own, ldn, p4.at_, ldv_ro, hix3, hb3, ldv_live hk3, c3]
    refine ⟨fun ct => ?_, fun _ => qf e4⟩
    refine cl_typ sr4 hw ht e4.f (by omega) fun n5 h5 d5 => ?_
    have e5 := Ev.more e4 d5
    obtain ⟨j0, j1, p5, sr5, sa5, le5⟩ := st e5
    have b3' : h5.get b3 = some ⟨cs3, kd3⟩ := (Kp.ev d5 (by omega) b3 lt3).trans hb3
    simp [wpS, wpM, wpN, j0, j1, ldv_own, ldn, veqS, p5.at_, vvf, b3', ldn_live hk3, take1 c3, lt1 c3]
    exact q' _ e5 fun hz => by
      have hz9 : t.2 = g.sig := by simpa using hz
      clear hz
      obtain ⟨t1, t2⟩ := t
      dsimp only at ct hz9
      subst ct hz9
      constructor <;> intro hc <;> first | omega | exact ⟨g, hc1, ht⟩
  by_cases c11 : i.op = 11
  · obtain ⟨t, ht, nt⟩ := rdst _ (hdef (by omega) (by omega) (by omega))
    obtain ⟨ta, hta, nta⟩ := ruse i.a (by simp [usesP, c11])
    simp [wpS, wpM, wpN, k0, k1, ldv_own, c11, ldn]
    refine cl_typ sr3 hw ht e3.f (by omega) fun n4 h4 e4 => ?_
    have e4 := Ev.more e3 e4
    obtain ⟨j0, j1, p4, sr4, sa4, le4⟩ := st e4
    simp [wpS, wpM, wpN, j0, j1, ldv_own, ldn]
    refine ⟨fun ct => ?_, fun _ => qf e4⟩
    refine cl_typ sr4 hw hta e4.f (by omega) fun n5 h5 e5 => ?_
    have e5 := Ev.more e4 e5
    obtain ⟨j0, j1, p5, sr5, sa5, le5⟩ := st e5
    simp [wpS, wpM, wpN, j0, j1, ldv_own, ldn]
    refine ⟨fun ca => ?_, fun _ => qf e5⟩
    refine cl_typ sr5 hw hta e5.f (by omega) fun n6 h6 e6 => ?_
    have e6 := Ev.more e5 e6
    obtain ⟨j0, j1, p6, sr6, sa6, le6⟩ := st e6
    simp [wpS, wpM, wpN, j0, j1, ldv_own, ldn, veqS, vv, vw]
    refine cl_typ sr6 hw ht e6.f (by omega) fun n7 h7 e7 => ?_
    have e7 := Ev.more e6 e7
    obtain ⟨j0, j1, p7, sr7, sa7, le7⟩ := st e7
    simp [wpS, wpN]
    refine Wp.cl (R := fun v n' h' => n7 = n' ∧ h7 = h' ∧ i64 (implP P ta.2 t.2) = v) (impl_wp p7 (by have := lm.imps; omega) ⟨rfl, rfl, rfl⟩) ?_
    rintro _ _ _ ⟨rfl, rfl, rfl⟩
    simp [wpS]
    exact q' _ e7 fun hz => by
      constructor <;> intro hc <;> first | omega | exact ⟨t, ta, ht, ct, hta, ca⟩
  have ha : ∀ r ∈ i.args, 0 ≤ r ∧ r < (x.regs.length : Int) := fun r hr => ou r (by
    have : i.op = 12 ∨ i.op = 13 ∨ i.op = 14 := by omega
    rcases this with c | c | c <;> simp [usesP, c, hr])
  have hd : 0 ≤ i.dst ∧ i.dst < (x.regs.length : Int) := od _ (hdef (by omega) (by omega) (by omega))
  by_cases c12 : i.op = 12
  · obtain ⟨kc, g, hkc, hc1, hc2, _⟩ := getI_of (o10 (.inr c12))
    obtain ⟨b3, ob3, cs3, kd3, _, hix3, hb3, hk3, ⟨vg, vb, rfl, sgr, sgb, _⟩, hcs3, lt3, _⟩ := p3.funcs.atI hc1
    have c3 : cs3[ob3]? = _ := hcs3 0 _ rfl
    obtain ⟨ks, sg, hks, hs1, hs2, _⟩ := getI_of (nm.funcs g (List.mem_of_getElem? hc2)).sig
    obtain ⟨b4, ob4, cs4, kd4, _, hix4, hb4, hk4, ⟨vp, rfl, sp, _⟩, hcs4, lt4, hl4, hd4⟩ := p3.sigs.atI hs1
    simp [wpS, wpM, wpN, k0, k1, ldv_own, c12, ldn, p3.at_, ldv_ro, hix3, hb3, ldv_live hk3, c3, hix4, hb4, ldn_live hk4, hl4, hd4]
    rw [← c12]
    refine Wp.cl (R := fun v n' h' => ∃ z, bo z = v ∧ Ev No n3 h3 n' h' ∧ (z = true → CallOk x i sg)) (call_wp (F := F) (a0 := pt bp 0) (x := x) (i := i) (s := sg) sr3 hw sa3 sp hd ha (by omega) e3.f (by omega) fun z n' h' e' hz => ⟨z, rfl, e', hz⟩) ?_
    rintro _ n5 h5 ⟨z, rfl, e5, hz⟩
    simp only [wpS]
    exact q' _ (Ev.more e3 e5) fun h => by
      constructor <;> intro hc <;> first | omega | exact ⟨g, sg, hc1, hs1, hz h⟩
  by_cases c13' : i.op = 13
  · obtain ⟨ta, hta, nta⟩ := ruse i.a (by simp [usesP, c13'])
    simp [wpS, wpM, wpN, k0, k1, ldv_own, c13', ldn]
    refine cl_typ sr3 hw hta e3.f (by omega) fun n4 h4 e4 => ?_
    have e4 := Ev.more e3 e4
    obtain ⟨j0, j1, p4, sr4, sa4, le4⟩ := st e4
    simp [wpS, wpM, wpN, j0, j1, ldv_own, ldn, p4.at_, ldv_ro]
    refine ⟨fun ct => ?_, fun _ => qf e4⟩
    refine cl_typ sr4 hw hta e4.f (by omega) fun n5 h5 e5 => ?_
    have e5 := Ev.more e4 e5
    obtain ⟨j0, j1, p5, sr5, sa5, le5⟩ := st e5
    obtain ⟨ks, sg, hks, hs1, hs2, _⟩ := getI_of (named2 nta ct)
    obtain ⟨b4, ob4, cs4, kd4, _, hix4, hb4, hk4, ⟨vp, rfl, sp, _⟩, hcs4, lt4, hl4, hd4⟩ := p5.sigs.atI hs1
    simp [wpS, wpM, wpN, j0, j1, ldv_own, ldn, veqS, vv, vw, vaa, vvs, p5.at_, hix4, hb4, ldn_live hk4, hl4, hd4]
    refine Wp.cl (R := fun v n' h' => ∃ z, bo z = v ∧ Ev No n5 h5 n' h' ∧ (z = true → CallOk x i sg)) (call_wp (F := F) (a0 := pt bp 0) (x := x) (i := i) (s := sg) sr5 hw sa5 sp hd ha (by omega) e5.f (by omega) fun z n' h' e' hz => ⟨z, rfl, e', hz⟩) ?_
    rintro _ n6 h6 ⟨z, rfl, e6, hz⟩
    simp only [wpS]
    exact q' _ (Ev.more e5 e6) fun h => by
      constructor <;> intro hc <;> first | omega | exact ⟨ta, sg, hta, ct, hs1, hz h⟩
  have c14 : i.op = 14 := by omega
  obtain ⟨ta, hta, nta⟩ := ruse i.a (by simp [usesP, c14])
  simp [wpS, wpM, wpN, k0, k1, ldv_own, c14, ldn]
  refine cl_typ sr3 hw hta e3.f (by omega) fun n4 h4 e4 => ?_
  have e4 := Ev.more e3 e4
  obtain ⟨j0, j1, p4, sr4, sa4, le4⟩ := st e4
  simp [wpS, wpM, wpN, j0, j1, ldv_own, ldn, p4.at_, ldv_ro]
  refine ⟨fun ct => ?_, fun _ => qf e4⟩
  refine cl_typ sr4 hw hta e4.f (by omega) fun n5 h5 e5 => ?_
  have e5 := Ev.more e4 e5
  obtain ⟨j0, j1, p5, sr5, sa5, le5⟩ := st e5
  obtain ⟨kc, fc, hkc, hc1, hc2, _⟩ := getI_of (named3 nta ct)
  have hn1 := o14 c14 ta fc hta ct hc1
  obtain ⟨kn, u, hkn, hu1, hu2, _⟩ := getI_of hn1
  obtain ⟨b3, ob3, cs3, kd3, _, hix3, hb3, hk3, ⟨vc, rfl, sc⟩, hcs3, lt3, _⟩ := p5.ifs.atI hc1
  have c3 : cs3[ob3]? = _ := hcs3 0 _ rfl
  obtain ⟨b5, ob5, cs5, kd5, _, hix5, hb5, hk5, ⟨rfl, _⟩, hcs5, lt5, hl5, hd5⟩ := sc.atI hu1
  have c5' : cs5[ob5]? = _ := hcs5 0 _ rfl
  obtain ⟨ks, sg, hks, hs1, hs2, _⟩ := getI_of (nm.ifs fc (List.mem_of_getElem? hc2) u (List.mem_of_getElem? hu2))
  obtain ⟨b4, ob4, cs4, kd4, _, hix4, hb4, hk4, ⟨vp, rfl, sp, _⟩, hcs4, lt4, hl4, hd4⟩ := p5.sigs.atI hs1
  simp [wpS, wpM, wpN, j0, j1, ldv_own, ldn, veqS, vv, vw, vaa, vvs, vvi, p5.at_, ldv_ro, hix3, hb3, ldv_live hk3, c3, hix5, hb5, ldv_live hk5, c5', hix4, hb4, ldn_live hk4, hl4, hd4]
  refine Wp.cl (R := fun v n' h' => ∃ z, bo z = v ∧ Ev No n5 h5 n' h' ∧ (z = true → CallOk x i sg)) (call_wp (F := F) (a0 := pt bp 0) (x := x) (i := i) (s := sg) sr5 hw sa5 sp hd ha (by omega) e5.f (by omega) fun z n' h' e' hz => ⟨z, rfl, e', hz⟩) ?_
  rintro _ n6 h6 ⟨z, rfl, e6, hz⟩
  simp only [wpS]
  exact q' _ (Ev.more e5 e6) fun h => by
    constructor <;> intro hc <;> first | omega | exact ⟨ta, fc, u, sg, hta, ct, hc1, hu1, hs1, hz h⟩
end Go.Fn
end
section
set_option linter.unusedVariables false
namespace Go.Fn
open Go Go.Fw

variable {F n : Nat} {h : H} {Q : Post}

theorem sum_le {α : Type} {f : α → Nat} {c : Nat} : ∀ (l : List α), (∀ x ∈ l, f x ≤ c) → (l.map f).sum ≤ l.length * c
  | [], _ => by simp
  | x :: r, h => by
    have h1 := h x List.mem_cons_self
    have h2 := sum_le r fun y hy => h y (List.mem_cons_of_mem _ hy)
    simp only [List.map_cons, List.sum_cons, List.length_cons, Nat.succ_mul]
    omega
theorem Lm.points {P : Pg} (lm : Lm P) : (pointsP P).length ≤ 4464 := by
  unfold pointsP
  rw [ptsFs_len]
  have h1 : ∀ x ∈ P.funcs, szs x.blocks ≤ 372 := fun x hx => by
    have h2 := sum_le (f := fun b : Blo => b.code.length + 1) (c := 31) x.blocks fun b hb => by have := ((lm.fun_ x hx).each b hb).code; omega
    have h3 := (lm.fun_ x hx).blocks
    have : x.blocks.length * 31 ≤ 12 * 31 := Nat.mul_le_mul_right _ h3
    unfold szs; omega
  have h2 := sum_le (f := fun x : Fun => szs x.blocks) (c := 372) P.funcs h1
  have h3 : P.funcs.length * 372 ≤ 12 * 372 := Nat.mul_le_mul_right _ lm.funcs
  unfold szf; omega
theorem cl_points {n0 : Nat} {P : Pg} {bp : Nat} {vr vs vi vm vf : V} {K : V → St} (p : Prg h n0 P bp vr vs vi vm vf) (lm : Lm P) (f : Fr n h) (hn : n0 ≤ n) (hF : 100000 < F) (k : ∀ n' h' v, Ev No n h n' h' → Sl h' (fun b => n ≤ b ∧ b < n') 3 PtC v (pointsP P) → Wp (K v) n' h' Q) : Wp (cl (R8_Points F (pt bp 0)) K) n h Q := by
  have l1 := lm.points
  have l2 := lm.funcs
  refine Wp.cl (R := fun v n' h' => Ev No n h n' h' ∧ Sl h' (fun b => n ≤ b ∧ b < n') 3 PtC v (pointsP P)) (points_wp p f hn (by omega) hF (by omega) (fun x hx => by have := (lm.fun_ x hx).blocks; omega) fun n' h' v e g => ⟨e, ?_⟩) ?_
  · exact (g.sl (by omega)).keep (fun b hb => ⟨(g.lt e.f hb).1, (g.lt e.f hb).2⟩) (fun _ _ => rfl) fun _ _ h => h
  · rintro v n' h' ⟨e, g⟩
    exact k _ _ _ e g
theorem Sl.ev {n n' m m' : Nat} {h h' : H} {s : Nat} {α : Type} {E : List V → α → Prop} {v : V} {xs : List α} (x : Sl h (fun b => m ≤ b ∧ b < m') s E v xs) (e : Ev No n h n' h') (hm : m' ≤ n) : Sl h' (fun b => m ≤ b ∧ b < m') s E v xs :=
  x.keep (fun _ h => h) (fun b hb => e.no (by omega)) fun _ _ h => h
theorem cl_nowhere {K : V → St} (f : Fr n h) (k : ∀ n' h', Ev No n h n' h' → Wp (K (ptV ⟨-1, 0, 0⟩)) n' h' Q) : Wp (cl (R8_Nowhere F) K) n h Q := by
  refine Wp.cl (R := fun v n' h' => Ev No n h n' h' ∧ ptV ⟨-1, 0, 0⟩ = v) (nowhere_wp f fun n2 h2 e2 => ⟨e2, rfl⟩) ?_
  rintro _ n2 h2 ⟨e2, rfl⟩
  exact k _ _ e2
/-- The instruction at a point, or none. -/
def CodV (h : H) (n0 : Nat) (P : Pg) (q : Pt) (v : V) : Prop := (codeP P q = none ∧ v = .tuple #[.agg #[i64 0, i64 0, i64 0, i64 0, i64 0, nsl], bo false]) ∨ ∃ x w, codeP P q = some x ∧ SlR h n0 1 IntC w x.args ∧ FitI x ∧ v = .tuple #[insV x w, bo true]
theorem cl_code {n0 : Nat} {P : Pg} {bp : Nat} {vr vs vi vm vf : V} {K : V → St} (p : Prg h n0 P bp vr vs vi vm vf) {q : Pt} (f : Fr n h) (hn : n0 ≤ n)
    (k : ∀ n' h' v, Ev No n h n' h' → CodV h' n0 P q v → Wp (K v) n' h' Q) : Wp (cl (R8_Code F (pt bp 0) (ptV q)) K) n h Q := by
  refine Wp.cl (R := fun v n' h' => Ev No n h n' h' ∧ CodV h' n0 P q v) (code_wp p f hn (fun hc n' h' e => ⟨e, .inl ⟨hc, rfl⟩⟩) fun x w hc sw fx hw n' h' e => ⟨e, .inr ⟨x, w, hc, sw.keep (Kp.ev e hn) fun _ _ h => h, fx, rfl⟩⟩) ?_
  rintro v n2 h2 ⟨e2, c⟩
  exact k _ _ _ e2 c

/-- A value is written into a block of its own. -/
theorem Wp.put {K : V → St} {s : Nat} {z cs : List V} (f : Fr n h) (hz : z.all one = true) (h1 : cs.all one = true) (hs : z.length = s) (hl : cs.length = s) (w : Wp (K (pt n 0)) (n + 1) ((h.set n ⟨z, .own⟩).set n ⟨cs, .own⟩) Q) : Wp (kPtr z fun v => kStoreN s v (.agg cs.toArray) fun _ => K v) n h Q := by
  refine (Wp.ptrI f).2 ⟨hz, Wp.storeNI.2 ⟨by simp [hl], ?_⟩⟩
  rw [H.get_set_same]
  refine ⟨by simpa using h1, by simp [hs, hl], ?_⟩
  have ho : over z 0 cs = cs := by unfold over; simp [hs, hl]
  show Wp _ _ ((h.set n _).set n ⟨over z 0 cs, .own⟩) _
  rw [ho]; exact w
/-- What a point's types come to. -/
def TpPt (P : Pg) (q : Pt) : Prop := ∀ fn bl, getI P.funcs q.f = some fn → getI fn.blocks q.b = some bl → (∀ c, getI bl.code q.i = some c → FitOk P fn c) ∧ (q.i = bl.code.length → bl.fin = 3 → ∃ s, getI P.sigs fn.sig = some s ∧ getI fn.regs bl.reg = some s.res)
structure Tp (P : Pg) : Prop where
  params : ∀ x ∈ P.funcs, ∀ s, getI P.sigs x.sig = some s → ∀ (k : Nat) t, s.params[k]? = some t → x.regs[k]? = some t
  pts : ∀ q ∈ pointsP P, TpPt P q
  main : ∃ m s, getI P.funcs P.main = some m ∧ getI P.sigs m.sig = some s ∧ s.params = []

theorem types_wp {n0 : Nat} {P : Pg} {bp : Nat} {vr vs vi vm vf : V} (p : Prg h n0 P bp vr vs vi vm vf) (nm : Nm P) (lm : Lm P) (hF : 100000 < F)
    (f : Fr n h) (hn : n0 ≤ n) (q : ∀ z q n' h', Ev No n h n' h' → (z = true → Tp P) → Q (.tuple #[ptV q, bo z]) n' h') : Wp (R8_Types F (pt bp 0)) n h Q := by
  unfold R8_Types
  refine (Wp.ptrI f).2 ⟨by simp [oneS], ?_⟩
  have e0 := (Ev.start f).new ⟨[i64 0, i64 0, i64 0], .own⟩
  have p0 := p.keep (Kp.ev e0 hn)
  have g0 : (h.set n ⟨[i64 0, i64 0, i64 0], .own⟩).get n = some ⟨[i64 0, i64 0, i64 0], .own⟩ := H.get_set_same _ _ _
  generalize h.set n ⟨[i64 0, i64 0, i64 0], .own⟩ = h0 at e0 p0 g0 ⊢
  have k0 : ∀ {n' h'}, Ev No (n + 1) h0 n' h' → h'.get n = some ⟨[i64 0, i64 0, i64 0], .own⟩ := fun e => by rw [e.no (by omega), g0]
  have give : ∀ {n' h'}, Ev No (n + 1) h0 n' h' → ∀ (z : Bool) (x : Pt), (z = true → Tp P) → Wp (kStoreN 3 (pt n 0) (ptV x) fun _ => kLoadN 3 (pt n 0) fun v20 => tupK [v20, (bo z)]) n' h' Q := fun {n' h'} e' z x hz => by
    have le' := e'.le
    have g2 := k0 e'
    have e3 := Ev.more e0 e'
    have := q z x _ _ (e3.set (b := n) ⟨[i64 x.f, i64 x.b, i64 x.i], .own⟩ (by omega) (by omega)) hz
    simpa [wpS, wpM, g2, wsn, ldn, over, oneS, H.get_set_same] using this
  have stop : ∀ {n' h'}, Ev No (n + 1) h0 n' h' → ∀ (z : Bool), (z = true → Tp P) → Wp (cl (R8_Nowhere F) fun v18 => kStoreN 3 (pt n 0) v18 fun _ => kLoadN 3 (pt n 0) fun v20 => tupK [v20, (bo z)]) n' h' Q := fun {n' h'} e' z hz =>
    cl_nowhere e'.f fun n2 h2 e2 => give (Ev.more e' e2) z _ hz
  have l5 := lm.funcs
  -- the parameters
  refine Wp.jn (fun j => ∀ n' h', Ev No (n + 1) h0 n' h' → (∀ x ∈ P.funcs, ∀ s, getI P.sigs x.sig = some s → ∀ (k : Nat) t, s.params[k]? = some t → x.regs[k]? = some t) → Wp (j (pt bp 0) (pt n 0)) n' h' Q) ?_ fun j hj => ?_
  case refine_2 =>
    refine Wp.loop3 (fun d x0 x1 x2 n' h' => Ev No (n + 1) h0 n' h' ∧ x0 = pt bp 0 ∧ x1 = pt n 0 ∧ ∃ (k : Nat), x2 = i64 (k : Int) ∧ k + d = P.funcs.length ∧ ∀ x ∈ P.funcs.take k, ∀ s, getI P.sigs x.sig = some s → ∀ (k : Nat) t, s.params[k]? = some t → x.regs[k]? = some t) ?_ (d := P.funcs.length) ⟨Ev.start e0.f, rfl, rfl, 0, rfl, by omega, by simp⟩ (by omega)
    rintro d _ _ _ n1 h1 rec ⟨e1, rfl, rfl, k, rfl, hk, ha⟩ hr
    have p1 := p0.keep (Kp.ev e1 (by omega))
    simp [wpS, wpM, p1.at_, ldv_ro, p1.funcs.len]
    refine ⟨fun hlt => ?_, fun hge => hj _ _ e1 (all_end ha hge)⟩
    obtain ⟨x, hx, _⟩ := Sl.get hlt
    have wk := wrap_succ (show k < 9223372036854775807 by omega)
    have lx := lm.fun_ x (List.mem_of_getElem? hx)
    obtain ⟨ks, sg, hks, hs1, hs2, _⟩ := getI_of (nm.funcs x (List.mem_of_getElem? hx)).sig
    have lsg := lm.sig_ sg (List.mem_of_getElem? hs2)
    obtain ⟨b, o, cs, kd, _, hix, hb1, hkd, ⟨vg, vb, rfl, sr, sb, _⟩, hcs, _⟩ := p1.funcs.at hx
    have c0 : cs[o]? = _ := hcs 0 _ rfl
    have c1 := hcs 1 _ rfl
    obtain ⟨b4, o4, cs4, kd4, _, hix4, hb4, hk4, ⟨vp, rfl, sp, _⟩, hcs4, lt4, hl4, hd4⟩ := p1.sigs.atI hs1
    have c4 : cs4[o4]? = _ := hcs4 0 _ rfl
    have le1 := e1.le
    simp [wpS, wpM, p1.at_, ldv_ro, hix, hb1, ldv_live hkd, c0, c1, hix4, hb4, ldv_live hk4, c4, sr.len, sp.len]
    refine ⟨fun _ => stop e1 false (by simp), fun hle => ?_⟩
    refine Wp.loop5 (fun d2 x0 x1 x2 x3 x4 n' h' => Ev No n1 h1 n' h' ∧ x0 = pt bp 0 ∧ x1 = pt n 0 ∧ x2 = i64 (k : Int) ∧ x3 = vp ∧ ∃ (i : Nat), x4 = i64 (i : Int) ∧ i + d2 = sg.params.length ∧ ∀ (j : Nat) t, j < i → sg.params[j]? = some t → x.regs[j]? = some t) ?_ (d := sg.params.length) ⟨Ev.start e1.f, rfl, rfl, rfl, rfl, 0, rfl, by omega, by omega⟩ (by omega)
    rintro d2 _ _ _ _ _ n2 h2 rec2 ⟨e2, rfl, rfl, rfl, rfl, i, rfl, hi, hb⟩ hr2
    have wi := wrap_succ (show i < 9223372036854775807 by omega)
    have p2 := p1.keep (Kp.ev e2 (by omega))
    have sp2 := sp.keep (Kp.ev e2 (by omega)) fun _ _ h => h
    have le2 := e2.le
    obtain ⟨b, o, cs, kd, _, hix, hb1, hkd, ⟨vg, vb, rfl, sr, sb, _⟩, hcs, _⟩ := p2.funcs.at hx
    have c1 := hcs 1 _ rfl
    simp [wpS, wpM, sp2.len, p2.at_, ldv_ro, hix, hb1, ldv_live hkd, c1, wk]
    refine ⟨fun hlt2 => ?_, fun hge2 => hr (d - 1) _ _ _ _ _ (by omega) ⟨Ev.more e1 e2, rfl, rfl, k + 1, by simp, by omega, all_succ ha hx fun s hs j t ht => ?_⟩⟩
    case refine_2 =>
      rw [hs1] at hs; cases hs
      exact hb j t (by have := (List.getElem?_eq_some_iff.1 ht).1; omega) ht
    obtain ⟨t, ht, _⟩ := Sl.get hlt2
    obtain ⟨u, hu, _⟩ := Sl.get (show i < x.regs.length by omega)
    obtain ⟨b5, o5, cs5, kd5, _, hix5, hb5, hk5, ⟨rfl, _⟩, _, _, hl5, hd5⟩ := sp2.at ht
    obtain ⟨b6, o6, cs6, kd6, _, hix6, hb6, hk6, ⟨rfl, _⟩, _, _, hl6, hd6⟩ := sr.at hu
    simp [wpS, wpM, hix6, hb6, ldn_live hk6, hl6, hd6, hix5, hb5, ldn_live hk5, hl5, hd5]
    refine cl_eq e2.f fun n3 h3 e3 => ?_
    simp [wpS, wi]
    refine ⟨fun _ => stop (Ev.more (Ev.more e1 e2) e3) false (by simp), fun hut => ?_⟩
    refine hr2 (d2 - 1) _ _ _ _ _ _ _ (by omega) ⟨Ev.more e2 e3, rfl, rfl, rfl, rfl, i + 1, by simp, by omega, fun j t' hj ht' => ?_⟩
    by_cases hji : j = i
    · subst hji
      rw [ht] at ht'; cases ht'
      rw [hu, hut]
    · exact hb j t' (by omega) ht'
  intro n1 h1 e1 hpar
  have le1 := e1.le
  have p1 := p0.keep (Kp.ev e1 (by omega))
  refine cl_points p1 lm e1.f (by omega) hF fun n2 h2 vl e2 sl2 => ?_
  have le2 := e2.le
  have e12 := Ev.more e1 e2
  refine Wp.jn (fun j => ∀ n' h', Ev No n2 h2 n' h' → (∀ q ∈ pointsP P, TpPt P q) → Wp (j (pt bp 0) (pt n 0)) n' h' Q) ?_ fun j hj => ?_
  case refine_1 =>
    intro n3 h3 e3 hpts
    have e13 := Ev.more e12 e3
    have le3 := e3.le
    have p3 := p0.keep (Kp.ev e13 (by omega))
    obtain ⟨km, m, hkm, hm1, hm2, _⟩ := getI_of nm.main
    obtain ⟨ks, sg, hks, hs1, hs2, _⟩ := getI_of (nm.funcs m (List.mem_of_getElem? hm2)).sig
    obtain ⟨b, o, cs, kd, _, hix, hb1, hkd, ⟨vg, vb, rfl, sr, sb, _⟩, hcs, _⟩ := p3.funcs.atI hm1
    have c0 : cs[o]? = _ := hcs 0 _ rfl
    obtain ⟨b4, o4, cs4, kd4, _, hix4, hb4, hk4, ⟨vp, rfl, sp, _⟩, hcs4, lt4, hl4, hd4⟩ := p3.sigs.atI hs1
    simp [wpS, wpM, p3.at_, ldv_ro, hix, hb1, ldv_live hkd, c0]
    rw [hix4]
    refine Wp.copy e3 hb4 hk4 hl4 hd4 (by simp [oneS, sp.one]) rfl rfl fun h5 e5 g5 k5 => ?_
    have sp5 := sp.keep (h' := h5) (fun b hb => k5 b (by omega)) fun _ _ h => h
    simp [wpS, wpM, g5, ldv_own, sp5.len]
    have e15 := Ev.more e12 e5
    refine cl_nowhere e5.f fun n6 h6 e6 => ?_
    have e16 := Ev.more e15 e6
    have g6 : h6.get n3 = some ⟨[vp, i64 sg.res.1, i64 sg.res.2], .own⟩ := by rw [e6.no (by omega), g5]
    have gn : h6.get n = some ⟨[i64 0, i64 0, i64 0], .own⟩ := k0 e16
    have hne : n3 ≠ n := by omega
    have le6 := e6.le
    have e06 := Ev.more e0 e16
    have := fun z hz => q z ⟨-1, 0, 0⟩ _ _ (e06.set (b := n) ⟨[i64 (-1), i64 0, i64 0], .own⟩ (by omega) (by omega)) hz
    simp [wpS, wpM, wpN, g6, ldv_own, ldn, veqS, sp5.veq, gn, wsn, over, oneS, H.get_set_same, H.get_set_ne _ _ hne]
    refine ⟨fun hz => this _ fun _ => ⟨hpar, hpts, m, sg, hm1, hs1, ?_⟩, fun _ => this _ (by simp)⟩
    simpa using hz
  refine Wp.loop4 (fun d x0 x1 x2 x3 n' h' => Ev No n2 h2 n' h' ∧ x0 = pt bp 0 ∧ x1 = pt n 0 ∧ x2 = vl ∧ ∃ (k : Nat), x3 = i64 (k : Int) ∧ k + d = (pointsP P).length ∧ ∀ q ∈ (pointsP P).take k, TpPt P q) ?_ (d := (pointsP P).length) ⟨Ev.start e2.f, rfl, rfl, rfl, 0, rfl, by omega, by simp⟩ (by have := lm.points; omega)
  rintro d _ _ vl _ n3 h3 rec ⟨e3, rfl, rfl, rfl, k, rfl, hk, ha⟩ hr
  have le3 := e3.le
  have e13 := Ev.more e12 e3
  have p3 := p0.keep (Kp.ev e13 (by omega))
  have sl3 := sl2.ev e3 (by omega)
  simp only [wpS, sl3.len, decide_eq_true_eq, decide_eq_false_iff_not]
  refine ⟨fun hlt => ?_, fun hge => hj _ _ e3 (all_end ha (by omega))⟩
  obtain ⟨x, hx, _⟩ := Sl.get (show k < (pointsP P).length by omega)
  have wk := wrap_succ (show k < 9223372036854775807 by have := lm.points; omega)
  obtain ⟨fn, bl, hf, hb, hi0, hi1⟩ := PtOk.of hx
  obtain ⟨kf, ekf, hf2⟩ := getI_some hf
  obtain ⟨kb, ekb, hb2⟩ := getI_some hb
  have nf := nm.funcs fn (List.mem_of_getElem? hf2)
  have nb := nf.code bl (List.mem_of_getElem? hb2)
  obtain ⟨bq, oq, csq, kdq, _, hixq, hbq, hkq, hpq, hcsq, ltq, hlq, hdq⟩ := sl3.at hx
  have hpq : _ = [i64 x.f, i64 x.b, i64 x.i] := hpq
  subst hpq
  have q0 : csq[oq]? = _ := hcsq 0 _ rfl
  have q1 := hcsq 1 _ rfl
  obtain ⟨b, o, cs, kd, _, hix, hb1, hkd, ⟨vg, vb, rfl, sr, sb, _⟩, hcs, lt1, hl1, hd1⟩ := p3.funcs.atI hf
  simp [wpM, p3.at_, ldv_ro, hixq, hbq, ldv_live hkq, q0, wpS.2.2.2.2]
  rw [hix]
  refine Wp.copy e3 hb1 hkd hl1 hd1 (by simp [oneS, sr.one, sb.one]) rfl rfl fun h5 e5 g5 k5 => ?_
  have sb5 := sb.keep (h' := h5) (fun b hb => k5 b (by omega)) (BloC.keep (fun b hb => k5 b (by omega)))
  have sr5 := sr.keep (h' := h5) (fun b hb => k5 b (by omega)) fun _ _ h => h
  have sl5 := sl2.ev e5 (by omega)
  obtain ⟨bq, oq, csq, kdq, _, hixq, hbq, hkq, hpq, hcsq, ltq, hlq, hdq⟩ := sl5.at hx
  have hpq : _ = [i64 x.f, i64 x.b, i64 x.i] := hpq
  subst hpq
  have q0 : csq[oq]? = _ := hcsq 0 _ rfl
  have q1 := hcsq 1 _ rfl
  obtain ⟨b4, o4, cs4, kd4, _, hix4, hb4, hk4, ⟨vc, rfl, sc, _⟩, hcs4, lt4, hl4, hd4⟩ := sb5.atI hb
  simp [wpM, g5, ldv_own, hixq, hbq, ldv_live hkq, q1, wpS.2.2.2.2]
  rw [hix4]
  refine Wp.copy e5 hb4 hk4 hl4 hd4 (by simp [oneS, sc.one]) rfl rfl fun h6 e6 g6 k6 => ?_
  have g65 : h6.get n3 = some ⟨[i64 fn.sig, vg, vb], .own⟩ := by rw [k6 _ (by omega), g5]
  have sl6 := sl2.ev e6 (by omega)
  obtain ⟨bq, oq, csq, kdq, _, hixq, hbq, hkq, hpq, hcsq, ltq, hlq, hdq⟩ := sl6.at hx
  have hpq : _ = [i64 x.f, i64 x.b, i64 x.i] := hpq
  subst hpq
  simp [wpM, hixq, hbq, ldn_live hkq, hlq, hdq]
  have e16 := Ev.more e12 e6
  have p6 := p0.keep (Kp.ev e16 (by omega))
  refine cl_code p6 (q := x) e6.f (by omega) fun n7 h7 vcode e7 hcode => ?_
  have e17 := Ev.more e6 e7
  have e07 := Ev.more e12 e17
  have le7 := e7.le
  have g7 : h7.get n3 = some ⟨[i64 fn.sig, vg, vb], .own⟩ := by rw [e7.no (by omega), g65]
  have g7b : h7.get (n3 + 1) = some ⟨[vc, i64 bl.fin, i64 bl.reg, i64 bl.to, i64 bl.els], .own⟩ := by rw [e7.no (by omega), g6]
  have p7 := p0.keep (Kp.ev e07 (by omega))
  have kp57 : Kp n0 h5 h7 := fun b hb => (e7.no (by omega)).trans (k6 b (by omega))
  have sr7 := sr5.keep kp57 fun _ _ h => h
  have sb7 := sb5.keep kp57 (BloC.keep kp57)
  have sl7 := sl2.ev e17 (by omega)
  have bad : ∀ {n' h'}, Ev No n2 h2 n' h' → Wp (kIndexAddr 3 vl (i64 (k : Int)) fun v94 => kLoadN 3 v94 fun v95 => kStoreN 3 (pt n 0) v95 fun _ => kLoadN 3 (pt n 0) fun v97 => tupK [v97, (bo false)]) n' h' Q := fun {n' h'} e' => by
    have sl' := sl2.ev e' (by omega)
    obtain ⟨bq, oq, csq, kdq, _, hixq, hbq, hkq, hpq, hcsq, ltq, hlq, hdq⟩ := sl'.at hx
    have hpq : _ = [i64 x.f, i64 x.b, i64 x.i] := hpq
    subst hpq
    refine (hixq _ _ _).2 (Wp.loadNI.2 ?_)
    rw [hbq]
    refine (ldn_live hkq).2 ⟨hlq, ?_⟩
    rw [hdq]
    exact give (Ev.more e12 e') false x (by simp)
  rcases hcode with ⟨hc, rfl⟩ | ⟨c, wa, hc, sa, _, rfl⟩
  · have hxi : x.i = bl.code.length := by
      unfold codeP at hc
      rw [hf] at hc
      replace hc : (getI fn.blocks x.b).bind _ = none := hc
      rw [hb] at hc
      replace hc : getI bl.code x.i = none := hc
      rcases getI_cases bl.code x.i with ⟨_, h2⟩ | ⟨_, y, _, h2, _⟩
      · omega
      · rw [h2] at hc; cases hc
    have tp : (bl.fin = 3 → ∃ s, getI P.sigs fn.sig = some s ∧ getI fn.regs bl.reg = some s.res) → TpPt P x := fun h3 fn' bl' h1 h2 => by
      rw [hf] at h1; cases h1
      rw [hb] at h2; cases h2
      exact ⟨fun c h => by
        rcases getI_cases bl.code x.i with ⟨h4, _⟩ | ⟨k4, y, h4, _, _, h5⟩
        · rw [h4] at h; cases h
        · omega, fun _ => h3⟩
    have go : TpPt P x → Wp (rec (pt bp 0) (pt n 0) vl (i64 ((k : Int) + 1))) (n7 + 1) ((h7.set n7 ⟨[i64 0, i64 0, i64 0, i64 0, i64 0, nsl], .own⟩).set n7 ⟨[i64 0, i64 0, i64 0, i64 0, i64 0, nsl], .own⟩) Q := fun h =>
      hr (d - 1) _ _ _ _ _ _ (by omega) ⟨(e17.new _).set _ (by omega) (by omega), rfl, rfl, rfl, k + 1, by simp, by omega, all_succ ha hx h⟩
    have e8 := (e17.new ⟨[i64 0, i64 0, i64 0, i64 0, i64 0, nsl], .own⟩).set (b := n7) ⟨[i64 0, i64 0, i64 0, i64 0, i64 0, nsl], .own⟩ (by omega) (by omega)
    have m1 : ∀ c, c < n7 → ((h7.set n7 ⟨[i64 0, i64 0, i64 0, i64 0, i64 0, nsl], .own⟩).set n7 ⟨[i64 0, i64 0, i64 0, i64 0, i64 0, nsl], .own⟩).get c = h7.get c := fun c hc => by rw [H.get_set_ne _ _ (by omega), H.get_set_ne _ _ (by omega)]
    generalize hh8 : (h7.set n7 ⟨[i64 0, i64 0, i64 0, i64 0, i64 0, nsl], .own⟩).set n7 ⟨[i64 0, i64 0, i64 0, i64 0, i64 0, nsl], .own⟩ = h8 at go e8 m1
    have g8 : h8.get n3 = some ⟨[i64 fn.sig, vg, vb], .own⟩ := by rw [m1 _ (by omega), g7]
    have g8b : h8.get (n3 + 1) = some ⟨[vc, i64 bl.fin, i64 bl.reg, i64 bl.to, i64 bl.els], .own⟩ := by rw [m1 _ (by omega), g7b]
    have kp8 : Kp n0 h7 h8 := fun b hb => m1 b (by omega)
    have p8 := p7.keep kp8
    have sr8 := sr7.keep kp8 fun _ _ h => h
    simp only [Wp.extractI, List.getElem?_cons_zero, List.getElem?_cons_succ, Option.some.injEq, exists_eq_left']
    refine ⟨by simp [isNF], by simp [isNF], Wp.put (cs := [i64 0, i64 0, i64 0, i64 0, i64 0, nsl]) e7.f (by simp [oneS]) (by simp [oneS]) rfl rfl ?_⟩
    rw [hh8]
    by_cases f3 : bl.fin = 3
    · have hreg : 0 ≤ bl.reg ∧ bl.reg < (fn.regs.length : Int) := by
        rcases nb.2 with h | h | h
        · omega
        · omega
        · exact h.2
      obtain ⟨kr, t, hkr, ht1, ht2, _⟩ := getI_of hreg
      obtain ⟨ks, sg, hks, hs1, hs2, _⟩ := getI_of nf.sig
      obtain ⟨b4, o4, cs4, kd4, _, hix4, hb4, hk4, ⟨vp, rfl, sp, _⟩, hcs4, lt4, hl4, hd4⟩ := p8.sigs.atI hs1
      obtain ⟨b5, o5, cs5, kd5, _, hix5, hb5, hk5, ⟨rfl, _⟩, hcs5, lt5, hl5, hd5⟩ := sr8.atI ht1
      have c1 : (cs4.drop (o4 + 1)).take 2 = [i64 sg.res.1, i64 sg.res.2] := by
        have := congrArg (fun l => l.drop 1) hd4
        simpa [List.drop_take, List.drop_drop] using this
      have hne : ¬ bl.fin = 2 := by omega
      simp [wpS, wpM, wpN, g8, g8b, ldv_own, f3, hix5, hb5, ldn_live hk5, hl5, hd5, p8.at_, ldv_ro, hix4, hb4, ldn_live hk4, c1, show o4 + 1 + 2 ≤ cs4.length by omega]
      refine cl_eq e8.f fun n9 h9 e9 => ?_
      simp [wpS, wk]
      refine ⟨fun _ => bad (Ev.more e8 e9), fun htu => ?_⟩
      exact hr (d - 1) _ _ _ _ _ _ (by omega) ⟨Ev.more e8 e9, rfl, rfl, rfl, k + 1, by simp, by omega, all_succ ha hx (tp fun _ => ⟨sg, hs1, by rw [ht1, htu]⟩)⟩
    by_cases f2 : bl.fin = 2
    · have hreg : 0 ≤ bl.reg ∧ bl.reg < (fn.regs.length : Int) := by
        rcases nb.2 with h | h | h
        · omega
        · exact h.2.1
        · omega
      obtain ⟨kr, t, hkr, ht1, ht2, _⟩ := getI_of hreg
      obtain ⟨b5, o5, cs5, kd5, _, hix5, hb5, hk5, ⟨rfl, _⟩, hcs5, lt5, hl5, hd5⟩ := sr8.atI ht1
      have c5 : cs5[o5]? = _ := hcs5 0 _ rfl
      simp [wpS, wpM, wpN, g8, g8b, ldv_own, f2, hix5, hb5, ldv_live hk5, c5, wk]
      exact ⟨fun _ => bad e8, fun _ => go (tp fun h => absurd h f3)⟩
    simp [wpS, wpM, wpN, g8, g8b, ldv_own, f2, f3, wk]
    exact go (tp fun h => absurd h f3)
  · simp only [Wp.extractI, List.getElem?_cons_zero, List.getElem?_cons_succ, Option.some.injEq, exists_eq_left']
    refine ⟨by simp [isNF], by simp [isNF], ?_⟩
    refine Wp.put (cs := [i64 c.op, i64 c.dst, i64 c.a, i64 c.b, i64 c.n, wa]) e7.f (by simp [oneS]) (by simp [oneS, sa.one]) rfl rfl ?_
    have e8 := (e17.new ⟨[i64 0, i64 0, i64 0, i64 0, i64 0, nsl], .own⟩).set (b := n7) ⟨[i64 c.op, i64 c.dst, i64 c.a, i64 c.b, i64 c.n, wa], .own⟩ (by omega) (by omega)
    have m1 : ∀ c', c' < n7 → ((h7.set n7 ⟨[i64 0, i64 0, i64 0, i64 0, i64 0, nsl], .own⟩).set n7 ⟨[i64 c.op, i64 c.dst, i64 c.a, i64 c.b, i64 c.n, wa], .own⟩).get c' = h7.get c' := fun c' hc => by rw [H.get_set_ne _ _ (by omega), H.get_set_ne _ _ (by omega)]
    have g8c : ((h7.set n7 ⟨[i64 0, i64 0, i64 0, i64 0, i64 0, nsl], .own⟩).set n7 ⟨[i64 c.op, i64 c.dst, i64 c.a, i64 c.b, i64 c.n, wa], .own⟩).get n7 = some ⟨[i64 c.op, i64 c.dst, i64 c.a, i64 c.b, i64 c.n, wa], .own⟩ := H.get_set_same _ _ _
    generalize (h7.set n7 ⟨[i64 0, i64 0, i64 0, i64 0, i64 0, nsl], .own⟩).set n7 ⟨[i64 c.op, i64 c.dst, i64 c.a, i64 c.b, i64 c.n, wa], .own⟩ = h8 at e8 m1 g8c
    have g8 : h8.get n3 = some ⟨[i64 fn.sig, vg, vb], .own⟩ := by rw [m1 _ (by omega), g7]
    have kp8 : Kp n0 h7 h8 := fun b hb => m1 b (by omega)
    have p8 := p7.keep kp8
    have sr8 := sr7.keep kp8 fun _ _ h => h
    have sb8 := sb7.keep kp8 (BloC.keep kp8)
    have sa8 := sa.keep kp8 fun _ _ h => h
    have hcc : getI bl.code x.i = some c := by
      unfold codeP at hc
      rw [hf] at hc
      replace hc : (getI fn.blocks x.b).bind _ = some c := hc
      rw [hb] at hc
      exact hc
    have tp : FitOk P fn c → TpPt P x := fun h3 fn' bl' h1 h2 => by
      rw [hf] at h1; cases h1
      rw [hb] at h2; cases h2
      refine ⟨fun c' h => ?_, fun h => ?_⟩
      · rw [hcc] at h; cases h; exact h3
      · rcases getI_cases bl.code x.i with ⟨h4, _⟩ | ⟨k4, y, h4, _, _, h5⟩
        · rw [h4] at hcc; cases hcc
        · omega
    have hla := lm.args hc
    simp [wpS, wpM, g8, g8c, ldn]
    refine Wp.cl (R := fun v n' h' => ∃ z, bo z = v ∧ Ev No (n7 + 1) h8 n' h' ∧ (z = true → FitOk P fn c)) (fits_wp p8 nm lm (x := fn) (i := c) (List.mem_of_getElem? hf2) sr8 sb8 sa8 (by omega) hF e8.f (by omega) fun z n' h' e' hz => ⟨z, rfl, e', hz⟩) ?_
    rintro _ n9 h9 ⟨z, rfl, e9, hz⟩
    simp [wpS, wk]
    refine ⟨fun _ => bad (Ev.more e8 e9), fun h => ?_⟩
    exact hr (d - 1) _ _ _ _ _ _ (by omega) ⟨Ev.more e8 e9, rfl, rfl, rfl, k + 1, by simp, by omega, all_succ ha hx (tp (hz h))⟩
end Go.Fn
end
section
set_option linter.unusedVariables false
namespace Go.Fn
open Go Go.Fw

variable {n : Nat} {h : H} {Q : Post} {K : V → St}

/-- Such a list, in a block from lo on that is nobody else's. -/
def Qs (h : H) (lo s : Nat) {α : Type} (E : List V → α → Prop) (v : V) (xs : List α) : Prop :=
  (xs = [] ∧ v = nsl) ∨ ∃ b o c cs kd, v = sl b o xs.length c ∧ lo ≤ b ∧ h.get b = some ⟨cs, kd⟩ ∧ cs.length = o + xs.length * s ∧ cs.all one = true ∧ (kd = .grow ∧ c = U + s ∨ kd = .own ∧ c = xs.length ∧ c < U) ∧ ∀ i x, xs[i]? = some x → E ((cs.drop (o + i * s)).take s) x

theorem Gs.q {lo s : Nat} {α : Type} {E : List V → α → Prop} {v : V} {xs : List α} (g : Gs h lo s E v xs) : Qs h lo s E v xs := by
  rcases g with g | ⟨b, cs, rfl, g0, g1, g2, g3, g4, g5⟩
  · exact .inl g
  · exact .inr ⟨b, 0, U + s, cs, .grow, rfl, g1, g2, by omega, g4, .inl ⟨rfl, rfl⟩, fun i x hx => by rw [Nat.zero_add]; exact g5 i x hx⟩
theorem Qs.nil {lo s : Nat} {α : Type} {E : List V → α → Prop} : Qs h lo s E nsl [] := .inl ⟨rfl, rfl⟩
theorem Qs.keep {h' : H} {lo s : Nat} {α : Type} {E E' : List V → α → Prop} {v : V} {xs : List α} (g : Qs h lo s E v xs) (k : ∀ c, InB v c → h'.get c = h.get c) (hE : ∀ cs y, E cs y → E' cs y) : Qs h' lo s E' v xs := by
  rcases g with g | ⟨b, o, c, cs, kd, rfl, g1, g2, g3, g4, g5, g6⟩
  · exact .inl g
  · exact .inr ⟨b, o, c, cs, kd, rfl, g1, by rw [k b ⟨_, _, _, rfl⟩]; exact g2, g3, g4, g5, fun i x hx => hE _ _ (g6 i x hx)⟩
theorem Qs.lt {lo s : Nat} {α : Type} {E : List V → α → Prop} {v : V} {xs : List α} (g : Qs h lo s E v xs) (f : Fr n h) {c : Nat} (hc : InB v c) : lo ≤ c ∧ c < n := by
  obtain ⟨o, l, cap, rfl⟩ := hc
  rcases g with ⟨_, e⟩ | ⟨b, o', c', cs, kd, e, g1, g2, _⟩
  · cases e
  · cases e; exact ⟨g1, f.lt g2⟩
theorem Qs.one {lo s : Nat} {α : Type} {E : List V → α → Prop} {v : V} {xs : List α} (g : Qs h lo s E v xs) : Fw.one v = true := by
  rcases g with ⟨_, rfl⟩ | ⟨b, o', c', cs, kd, rfl, _⟩ <;> rfl
theorem Qs.sl {lo s : Nat} {α : Type} {E : List V → α → Prop} {v : V} {xs : List α} (g : Qs h lo s E v xs) (hb : xs.length < 9223372036854775808) : Sl h (InB v) s E v xs := by
  refine ⟨hb, ?_⟩
  rcases g with ⟨rfl, rfl⟩ | ⟨b, o, c, cs, kd, rfl, g1, g2, g3, g4, g5, g6⟩
  · exact .inl ⟨rfl, rfl⟩
  · exact .inr ⟨b, o, c, cs, kd, rfl, fun _ => ⟨⟨_, _, _, rfl⟩, g2, by rcases g5 with ⟨rfl, _⟩ | ⟨rfl, _⟩ <;> decide, by omega⟩, g6⟩
/-- One that was just written. -/
theorem Qs.lit {lo s b m : Nat} {α : Type} {E : List V → α → Prop} {xs : List α} {cs : List V} (hb : h.get b = some ⟨cs, .own⟩) (hlo : lo ≤ b) (hm : xs.length = m) (hl : cs.length = m * s) (h1 : cs.all Fw.one = true) (hU : m < U) (hE : ∀ i x, xs[i]? = some x → E ((cs.drop (i * s)).take s) x) : Qs h lo s E (Fw.sl b 0 m m) xs :=
  .inr ⟨b, 0, m, cs, .own, by rw [hm], hlo, hb, by rw [hm]; omega, h1, .inr ⟨rfl, hm.symm, hU⟩, fun i x hx => by rw [Nat.zero_add]; exact hE i x hx⟩

/-- The first one off. -/
theorem Qs.tail {lo s : Nat} {α : Type} {E : List V → α → Prop} {v : V} {x : α} {xs : List α} (g : Qs h lo s E v (x :: xs)) : ∃ v', (∀ (K : V → St) (n : Nat) (h' : H) (Q : Post), Wp (kSlice s v (some (i64 1)) none none K) n h' Q ↔ Wp (K v') n h' Q) ∧ Qs h lo s E v' xs ∧ ∀ c, InB v' c → InB v c := by
  rcases g with ⟨g0, _⟩ | ⟨b, o, c, cs, kd, rfl, g1, g2, g3, g4, g5, g6⟩
  · cases g0
  rw [List.length_cons] at g3 g5
  have es : opSlice s (Fw.sl b o (xs.length + 1) c) (some (i64 1)) none none = ret (Fw.sl b (o + 1 * s) xs.length (if c = U + s then U + s else c - 1)) := by
    show (if (0 : Int) ≤ 1 ∧ (1 : Int) ≤ ((xs.length + 1 : Nat) : Int) then (if ((xs.length + 1 : Nat) : Int) ≤ ((xs.length + 1 : Nat) : Int) then (if c = U + s then ret (Fw.sl b (o + (1 : Int).toNat * s) (((xs.length + 1 : Nat) : Int) - 1).toNat c) else if c < U then ret (Fw.sl b (o + (1 : Int).toNat * s) (((xs.length + 1 : Nat) : Int) - 1).toNat (c - (1 : Int).toNat)) else fail) else fail) else fail) = _
    rw [if_pos (by omega), if_pos (by omega), show (((xs.length + 1 : Nat) : Int) - 1).toNat = xs.length by omega]
    rcases g5 with ⟨_, rfl⟩ | ⟨_, rfl, h7⟩
    · rw [if_pos rfl, if_pos rfl]; rfl
    · rw [if_neg (by omega), if_pos h7, if_neg (by omega)]; rfl
  refine ⟨_, fun K n h' Q => Wp.eq (by show bnd (opSlice s (Fw.sl b o (xs.length + 1) c) (some (i64 1)) none none) K = _; rw [es]; rfl), .inr ⟨b, o + 1 * s, _, cs, kd, rfl, g1, g2, by rw [g3, Nat.add_mul]; omega, g4, ?_, fun i y hy => ?_⟩, ?_⟩
  · rcases g5 with ⟨h6, rfl⟩ | ⟨h6, rfl, h7⟩
    · exact .inl ⟨h6, if_pos rfl⟩
    · refine .inr ⟨h6, ?_, ?_⟩
      · rw [if_neg (by omega)]; omega
      · rw [if_neg (by omega)]; omega
  · have := g6 (i + 1) y hy
    rwa [show o + (i + 1) * s = o + 1 * s + i * s by rw [Nat.add_mul]; omega] at this
  · rintro c' ⟨o', l', cap', e⟩
    cases e
    exact ⟨_, _, _, rfl⟩

/-- To what an append made and what was cut: into a new block, and the old one is nobody's any more. -/
theorem Wp.appGrowQ {s bytes l m b o : Nat} {w : V} {cs news : List V} (hb0 : h.get b = some ⟨cs, .grow⟩) (hl : cs.length = o + l * s) (hs : 0 < s) (hw : Cel h s w m news) (hm : m ≠ 0) (f : Fr n h) (ha : (cs.drop o ++ news).all one = true)
    (hb : l + m ≤ 1099511627776 ∧ (l + m) * bytes ≤ 70368744177664) (k : Wp (K (sl n 0 (l + m) (U + s))) (n + 1) ((h.set b dead).set n ⟨cs.drop o ++ news, .grow⟩) Q) : Wp (kApp s bytes (Fw.sl b o l (U + s)) w K) n h Q := by
  have hw2 := hw
  obtain ⟨_, ⟨_, h0⟩ | ⟨xb, xo, xc, rfl, _⟩⟩ := hw2
  · exact absurd h0 hm
  have hms : 0 < m * s := Nat.mul_pos (by omega) hs
  have hr : (roomy s (Fw.sl b o l (U + s)) (Fw.sl xb xo m xc)).run n h = some (false, n, h) := by
    show (if U + s = U + s ∧ m ≠ 0 then room b (o + (l + m) * s) else Fw.ret false).run n h = _
    rw [if_pos ⟨rfl, hm⟩]
    show roomF b (o + (l + m) * s) n h = _
    unfold roomF
    rw [hb0]
    have : ¬ (o + (l + m) * s ≤ cs.length) := by rw [hl, Nat.add_mul]; omega
    simp [this]
  have ho : Cel h s (Fw.sl b o l (U + s)) l (cs.drop o) := ⟨by rw [List.length_drop, hl]; omega, .inr ⟨b, o, U + s, rfl, fun _ => ⟨cs, .grow, hb0, by decide, by omega, by rw [List.take_of_length_le (by rw [List.length_drop]; omega)]⟩⟩⟩
  refine Wp.of (opApp_eq hr) ?_
  rw [if_neg (by decide)]
  refine Wp.of ?_ k
  show (bnd (if m = 0 then _ else if l + m ≤ 1099511627776 ∧ (l + m) * bytes ≤ 70368744177664 then bnd (cellsOf s (Fw.sl xb xo m xc)) (fun news => if U + s = U + s then bnd (cellsOf s (Fw.sl b o l (U + s))) fun olds => bnd (kill b) fun _ => bnd (new (olds ++ news) .grow) fun c => Fw.ret (.slice (some ⟨c, 0, none⟩) (l + m) (U + s)) else _) else fail) K).run n h = _
  have hkill : (kill b).run n h = some ((), n, h.set b dead) := by
    show killF b n h = _
    unfold killF
    rw [hb0]
  rw [if_neg hm, if_pos hb, bnd_assoc, run_bnd hw.run, if_pos rfl, bnd_assoc, run_bnd ho.run, bnd_assoc, run_bnd hkill, bnd_assoc, run_new (f.set _ (f.lt hb0)) ha]
  rfl

theorem Qs.push {n0 s bytes : Nat} {h0 : H} {α : Type} {E : List V → α → Prop} {v : V} {xs : List α} {x : α} {z es : List V} {ps : List (Nat × Nat × Bool × V)} (e : Ev No n0 h0 n h) (g : Qs h n0 s E v xs) (hfill : fillA z ps = some es) (hes : es.length = s) (hs : 0 < s) (hone : es.all Fw.one = true) (hx : E es x)
    (hb : xs.length < 1000000 ∧ bytes ≤ 1000) (k : ∀ h' v', Ev No n0 h0 (n + 2) h' → Qs h' n0 s E v' (xs ++ [x]) → (∀ c, c < n → ¬ InB v c → h'.get c = h.get c) → (∀ c, InB v' c → n ≤ c) → Wp (K v') (n + 2) h' Q) :
    Wp (kBuildSlice 1 z ps fun t => kApp s bytes v t K) n h Q := by
  refine (Wp.buildSliceI e.f).2 ⟨es, hfill, hone, ?_⟩
  have e1 := e.new ⟨es, .own⟩
  have hc : Cel (h.set n ⟨es, .own⟩) s (Fw.sl n 0 1 1) 1 es := ⟨by omega, .inr ⟨n, 0, 1, rfl, fun _ => ⟨es, .own, H.get_set_same _ _ _, by decide, by omega, by rw [List.drop_zero, List.take_of_length_le (by omega)]⟩⟩⟩
  have hle := e.le
  have hsz : xs.length + 1 ≤ 1099511627776 ∧ (xs.length + 1) * bytes ≤ 70368744177664 := ⟨by omega, by
    have : (xs.length + 1) * bytes ≤ 1000000 * 1000 := Nat.mul_le_mul (by omega) hb.2
    omega⟩
  rcases g with ⟨rfl, rfl⟩ | ⟨b, o, c, cs, kd, rfl, g1, g2, g3, g4, g5, g6⟩
  · refine Wp.appNew (l := 0) (m := 1) (olds := []) ⟨by simp, .inl ⟨rfl, rfl⟩⟩ (.inl rfl) hc (by decide) e1.f (by simpa using hone) (by simpa using hsz) ?_
    refine k _ _ (e1.new _) (.inr ⟨n + 1, 0, U + s, [] ++ es, .grow, rfl, by omega, H.get_set_same _ _ _, by simp; omega, by simpa using hone, .inl ⟨rfl, rfl⟩, fun i y hy => ?_⟩) (fun c hc _ => by rw [H.get_set_ne _ _ (by omega), H.get_set_ne _ _ (by omega)]) (fun c hc => by obtain ⟨_, _, _, q⟩ := hc; cases q; omega)
    have hi : i = 0 := by
      have := (List.getElem?_eq_some_iff.1 hy).1
      simp at this; exact this
    subst hi
    cases hy
    rw [List.nil_append, Nat.zero_mul, Nat.zero_add, List.drop_zero, List.take_of_length_le (by omega)]
    exact hx
  · have hbn := e.f.lt g2
    have g2' : (h.set n ⟨es, .own⟩).get b = some ⟨cs, kd⟩ := by rw [H.get_set_ne _ _ (by omega)]; exact g2
    have hall : (cs.drop o ++ es).all Fw.one = true := by
      rw [List.all_append, hone, Bool.and_true, List.all_eq_true]
      intro y hy
      exact List.all_eq_true.1 g4 y (List.mem_of_mem_drop hy)
    have hnew : ∀ (i : Nat) (y : α), (xs ++ [x])[i]? = some y → E (((cs.drop o ++ es).drop (0 + i * s)).take s) y := by
      intro i y hy
      have hdl : (cs.drop o).length = xs.length * s := by rw [List.length_drop, g3]; omega
      rw [Nat.zero_add]
      rcases Nat.lt_or_ge i xs.length with hi | hi
      · rw [List.getElem?_append_left hi] at hy
        have := g6 i y hy
        have hle2 : i * s + s ≤ (cs.drop o).length := by
          have := Nat.mul_le_mul_right s hi
          rw [Nat.succ_mul] at this; omega
        rw [List.drop_append_of_le_length (by omega), List.take_append_of_le_length (by rw [List.length_drop]; omega), List.drop_drop]
        exact this
      · have hlt := (List.getElem?_eq_some_iff.1 hy).1
        have hi2 : i = xs.length := by simp at hlt; omega
        subst hi2
        rw [List.getElem?_append_right (Nat.le_refl _)] at hy
        simp at hy
        subst hy
        rw [← hdl, List.drop_left, List.take_of_length_le (by omega)]
        exact hx
    rcases g5 with ⟨rfl, rfl⟩ | ⟨rfl, rfl, hU⟩
    · refine Wp.appGrowQ (l := xs.length) (m := 1) g2' g3 hs hc (by decide) e1.f hall hsz ?_
      exact k _ _ ((e1.set (b := b) dead (by omega) (by omega)).new _) (.inr ⟨n + 1, 0, U + s, cs.drop o ++ es, .grow, by simp, by omega, H.get_set_same _ _ _, by rw [List.length_append, List.length_drop, List.length_append, g3, hes, List.length_singleton, Nat.add_mul]; omega, hall, .inl ⟨rfl, rfl⟩, hnew⟩)
        (fun c hc hn => by rw [H.get_set_ne _ _ (by omega), H.get_set_ne _ _ (fun q => hn ⟨o, xs.length, U + s, by rw [q]⟩), H.get_set_ne _ _ (by omega)]) (fun c hc => by obtain ⟨_, _, _, q⟩ := hc; cases q; omega)
    · have ho : Cel (h.set n ⟨es, .own⟩) s (Fw.sl b o xs.length xs.length) xs.length (cs.drop o) := ⟨by rw [List.length_drop, g3]; omega, .inr ⟨b, o, xs.length, rfl, fun _ => ⟨cs, .own, g2', by decide, by omega, by rw [List.take_of_length_le (by rw [List.length_drop]; omega)]⟩⟩⟩
      refine Wp.appNew (l := xs.length) (m := 1) ho (.inr ⟨b, o, xs.length, rfl, by omega, hU⟩) hc (by decide) e1.f hall hsz ?_
      exact k _ _ (e1.new _) (.inr ⟨n + 1, 0, U + s, cs.drop o ++ es, .grow, by simp, by omega, H.get_set_same _ _ _, by rw [List.length_append, List.length_drop, List.length_append, g3, hes, List.length_singleton, Nat.add_mul]; omega, hall, .inl ⟨rfl, rfl⟩, hnew⟩)
        (fun c hc hn => by rw [H.get_set_ne _ _ (by omega), H.get_set_ne _ _ (by omega)]) (fun c hc => by obtain ⟨_, _, _, q⟩ := hc; cases q; omega)
end Go.Fn
end
section
set_option linter.unusedVariables false
namespace Go.Fn
open Go Go.Fw

variable {F n : Nat} {h : H} {Q : Post}

def MtI (P : Pg) (m : Imp) : Prop := ∃ want, getI P.ifs m.ifc = some want ∧ m.funcs.length = want.length ∧ ∀ (k : Nat) z w, m.funcs[k]? = some z → want[k]? = some w →
  ∃ g s sw, getI P.funcs z = some g ∧ getI P.sigs g.sig = some s ∧ getI P.sigs w = some sw ∧ s.params = (1, m.rec_) :: sw.params ∧ s.res = sw.res

theorem methods_wp {n0 : Nat} {P : Pg} {bp : Nat} {vr vs vi vm vf : V} (p : Prg h n0 P bp vr vs vi vm vf) (nm : Nm P) (lm : Lm P) (hF : 100000 < F)
    (f : Fr n h) (hn : n0 ≤ n) (q : ∀ z n' h', Ev No n h n' h' → (z = true → ∀ m ∈ P.imps, MtI P m) → Q (bo z) n' h') : Wp (R8_Methods F (pt bp 0)) n h Q := by
  unfold R8_Methods
  have l4 := lm.imps
  have vvs := p.sigs.veq
  refine Wp.jn (fun j => ∀ n' h', Ev No n h n' h' → (∀ m ∈ P.imps, MtI P m) → Wp j n' h' Q) (fun n' h' e ha => Wp.retI.2 (q _ _ _ e fun _ => ha)) fun j hj => ?_
  refine Wp.loop2 (fun d x0 x1 n' h' => Ev No n h n' h' ∧ x0 = pt bp 0 ∧ ∃ (k : Nat), x1 = i64 (k : Int) ∧ k + d = P.imps.length ∧ ∀ m ∈ P.imps.take k, MtI P m) ?_ (d := P.imps.length) ⟨Ev.start f, rfl, 0, rfl, by omega, by simp⟩ (by omega)
  rintro d _ _ n1 h1 rec ⟨e1, rfl, k, rfl, hk, ha⟩ hr
  have le1 := e1.le
  have p1 := p.keep (Kp.ev e1 hn)
  simp [wpS, wpM, p1.at_, ldv_ro, p1.imps.len]
  refine ⟨fun hlt => ?_, fun hge => hj _ _ e1 (all_end ha hge)⟩
  obtain ⟨m, hm, _⟩ := Sl.get hlt
  have wk := wrap_succ (show k < 9223372036854775807 by omega)
  have lx := lm.imp_ m (List.mem_of_getElem? hm)
  obtain ⟨nr, ni, nf⟩ := nm.imps m (List.mem_of_getElem? hm)
  obtain ⟨kw, want, hkw, hw1, hw2, _⟩ := getI_of ni
  have nwant := nm.ifs want (List.mem_of_getElem? hw2)
  have lwant := lm.if_ want (List.mem_of_getElem? hw2)
  obtain ⟨b, o, cs, kd, _, hix, hb1, hkd, ⟨vmf, rfl, smf, _⟩, hcs, ltm, hl1, hd1⟩ := p1.imps.at hm
  rw [hix]
  refine Wp.copy e1 hb1 hkd hl1 hd1 (by simp [oneS, smf.one]) rfl rfl fun h2 e2 g2 k2 => ?_
  have kp2 : Kp n0 h1 h2 := fun b hb => k2 b (by omega)
  have p2 := p1.keep kp2
  have smf2 := smf.keep kp2 fun _ _ h => h
  obtain ⟨b4, o4, cs4, kd4, _, hix4, hb4, hk4, ⟨vw, rfl, sw⟩, hcs4, lt4, hl4, hd4⟩ := p2.ifs.atI hw1
  have c4 : cs4[o4]? = _ := hcs4 0 _ rfl
  simp [wpS.1, wpS.2.1, wpS.2.2.1, wpS.2.2.2.2, wpM, p2.at_, ldv_ro, g2, ldv_own, hix4, hb4, ldv_live hk4, c4]
  refine Wp.jn (fun j => ∀ z, (z = false → m.funcs.length = want.length) → Wp (j (pt bp 0) (i64 (k : Int)) (pt n1 0) vw (bo z)) (n1 + 1) h2 Q) ?_ fun j2 hj2 => ?_
  case refine_2 =>
    simp [wpS, wpM, g2, ldv_own, smf2.len, sw.len]
    refine ⟨fun _ => hj2 _ (by simp), fun h => ?_⟩
    refine Wp.cl (R := fun v n' h' => n1 + 1 = n' ∧ h2 = h' ∧ i64 (implP P m.rec_ m.ifc) = v) (impl_wp p2 (by omega) ⟨rfl, rfl, rfl⟩) ?_
    rintro _ _ _ ⟨rfl, rfl, rfl⟩
    simp [wpS]
    exact hj2 _ fun _ => by omega
  intro z hz
  refine Wp.bool.2 ⟨fun _ => Wp.retI.2 (q false _ _ e2 (by simp)), fun hz2 => ?_⟩
  have hlen := hz hz2
  refine Wp.loop5 (fun d2 x0 x1 x2 x3 x4 n' h' => Ev No (n1 + 1) h2 n' h' ∧ x0 = pt bp 0 ∧ x1 = i64 (k : Int) ∧ x2 = pt n1 0 ∧ x3 = vw ∧ ∃ (i : Nat), x4 = i64 (i : Int) ∧ i + d2 = want.length ∧ ∀ (j : Nat) z w, j < i → m.funcs[j]? = some z → want[j]? = some w → ∃ g s sw, getI P.funcs z = some g ∧ getI P.sigs g.sig = some s ∧ getI P.sigs w = some sw ∧ s.params = (1, m.rec_) :: sw.params ∧ s.res = sw.res) ?_ (d := want.length) ⟨Ev.start e2.f, rfl, rfl, rfl, rfl, 0, rfl, by omega, by omega⟩ (by omega)
  rintro d2 _ _ _ vw _ n3 h3 rec2 ⟨e3, rfl, rfl, rfl, rfl, i, rfl, hi, hb⟩ hr2
  have le3 := e3.le
  have wi := wrap_succ (show i < 9223372036854775807 by omega)
  have kp3 : Kp n0 h2 h3 := Kp.ev e3 (by omega)
  have p3 := p2.keep kp3
  have smf3 := smf2.keep kp3 fun _ _ h => h
  have sw3 := sw.keep kp3 fun _ _ h => h
  have g3 : h3.get n1 = some ⟨[i64 m.rec_, i64 m.ifc, vmf], .own⟩ := by rw [e3.no (by omega), g2]
  have e23 := Ev.more e2 e3
  simp only [wpS.1, wpS.2.1, wpS.2.2.1, wpS.2.2.2.2, sw3.len, decide_eq_true_eq, decide_eq_false_iff_not]
  refine ⟨fun hlt2 => ?_, fun hge2 => ?_⟩
  case refine_2 =>
    simp [wpS, wk]
    refine hr (d - 1) _ _ _ _ (by omega) ⟨e23, rfl, k + 1, by simp, by omega, all_succ ha hm ⟨want, hw1, hlen, fun j z w h1 h2 => hb j z w (by have := (List.getElem?_eq_some_iff.1 h2).1; omega) h1 h2⟩⟩
  obtain ⟨w, hw, _⟩ := Sl.get (show i < want.length by omega)
  obtain ⟨z', hz', _⟩ := Sl.get (show i < m.funcs.length by omega)
  obtain ⟨kg, g, hkg, hg1, hg2, _⟩ := getI_of (nf z' (List.mem_of_getElem? hz'))
  obtain ⟨ks, s, hks, hs1, hs2, _⟩ := getI_of (nm.funcs g (List.mem_of_getElem? hg2)).sig
  obtain ⟨ku, u, hku, hu1, hu2, _⟩ := getI_of (nwant w (List.mem_of_getElem? hw))
  have ls := lm.sig_ s (List.mem_of_getElem? hs2)
  have lu := lm.sig_ u (List.mem_of_getElem? hu2)
  obtain ⟨b5, o5, cs5, kd5, _, hix5, hb5, hk5, ⟨rfl, _⟩, hcs5, lt5, hl5, hd5⟩ := smf3.at hz'
  have c5 : cs5[o5]? = _ := hcs5 0 _ rfl
  obtain ⟨b6, o6, cs6, kd6, _, hix6, hb6, hk6, ⟨rfl, _⟩, hcs6, lt6, hl6, hd6⟩ := sw3.at hw
  have c6 : cs6[o6]? = _ := hcs6 0 _ rfl
  obtain ⟨b7, o7, cs7, kd7, _, hix7, hb7, hk7, ⟨vg, vb, rfl, sgr, sgb, _⟩, hcs7, lt7, hl7, hd7⟩ := p3.funcs.atI hg1
  have c7 : cs7[o7]? = _ := hcs7 0 _ rfl
  obtain ⟨b8, o8, cs8, kd8, _, hix8, hb8, hk8, ⟨vsp, rfl, ssp, _⟩, hcs8, lt8, hl8, hd8⟩ := p3.sigs.atI hs1
  obtain ⟨b9, o9, cs9, kd9, _, hix9, hb9, hk9, ⟨vup, rfl, sup, _⟩, hcs9, lt9, hl9, hd9⟩ := p3.sigs.atI hu1
  have e4 := ((((e3.new ⟨[nsl, i64 0, i64 0], .own⟩).new ⟨[nsl, i64 0, i64 0], .own⟩).set (b := n3) ⟨[vsp, i64 s.res.1, i64 s.res.2], .own⟩ (by omega) (by omega)).set (b := n3 + 1) ⟨[vup, i64 u.res.1, i64 u.res.2], .own⟩ (by omega) (by omega))
  have hne1 : n3 ≠ n3 + 1 := by omega
  refine Wp.jn (fun j => ∀ n' h', Ev No (n1 + 1) h2 n' h' → s.params = (1, m.rec_) :: u.params → s.res = u.res → Wp (j (pt bp 0) (i64 (k : Int)) (pt n1 0) vw (i64 (i : Int))) n' h' Q) ?_ fun j3 hj3 => ?_
  case refine_1 =>
    intro n' h' e' h1 h2
    simp [wpS, wi]
    refine hr2 (d2 - 1) _ _ _ _ _ _ _ (by omega) ⟨e', rfl, rfl, rfl, rfl, i + 1, by simp, by omega, fun j z w' hj h4 h5 => ?_⟩
    by_cases hji : j = i
    · subst hji
      rw [hz'] at h4; cases h4
      rw [hw] at h5; cases h5
      exact ⟨g, s, u, hg1, hs1, hu1, h1, h2⟩
    · exact hb j z w' (by omega) h4 h5
  have hbp := p.lt
  simp [wpS.1, wpS.2.1, wpS.2.2.1, wpS.2.2.2.2, wpM, wpN, p3.at_, ldv_ro, g3, ldv_own, hix5, hb5, ldv_live hk5, c5, hix6, hb6, ldv_live hk6, c6, hix7, hb7, ldv_live hk7, c7, hix8, hb8, ldn_live hk8, hl8, hd8, hix9, hb9, ldn_live hk9, hl9, hd9, Wp.ptrI, e3.f, e3.f.new, oneS, H.get_set, wsn, over, ssp.one, sup.one, ldn, veqS, vvs, take1 c6, lt1 c6, sup.veq,
    show n3 ≠ n3 + 1 by omega, show n3 + 1 ≠ n3 by omega, show ¬ bp = n3 by omega, show ¬ b6 = n3 by omega, show ¬ b9 = n3 by omega, show ¬ bp = n3 + 1 by omega, show ¬ b6 = n3 + 1 by omega, show ¬ b9 = n3 + 1 by omega, ldn_live hk6]
  have m4 : ∀ c, c < n3 → ((((h3.set n3 ⟨[nsl, i64 0, i64 0], .own⟩).set (n3 + 1) ⟨[nsl, i64 0, i64 0], .own⟩).set n3 ⟨[vsp, i64 s.res.1, i64 s.res.2], .own⟩).set (n3 + 1) ⟨[vup, i64 u.res.1, i64 u.res.2], .own⟩).get c = h3.get c := fun c hc => by
    rw [H.get_set_ne _ _ (by omega), H.get_set_ne _ _ (by omega), H.get_set_ne _ _ (by omega), H.get_set_ne _ _ (by omega)]
  have g4s : ((((h3.set n3 ⟨[nsl, i64 0, i64 0], .own⟩).set (n3 + 1) ⟨[nsl, i64 0, i64 0], .own⟩).set n3 ⟨[vsp, i64 s.res.1, i64 s.res.2], .own⟩).set (n3 + 1) ⟨[vup, i64 u.res.1, i64 u.res.2], .own⟩).get n3 = some ⟨[vsp, i64 s.res.1, i64 s.res.2], .own⟩ := by
    rw [H.get_set_ne _ _ (by omega), H.get_set_same]
  have g4u : ((((h3.set n3 ⟨[nsl, i64 0, i64 0], .own⟩).set (n3 + 1) ⟨[nsl, i64 0, i64 0], .own⟩).set n3 ⟨[vsp, i64 s.res.1, i64 s.res.2], .own⟩).set (n3 + 1) ⟨[vup, i64 u.res.1, i64 u.res.2], .own⟩).get (n3 + 1) = some ⟨[vup, i64 u.res.1, i64 u.res.2], .own⟩ := H.get_set_same _ _ _
  generalize (((h3.set n3 ⟨[nsl, i64 0, i64 0], .own⟩).set (n3 + 1) ⟨[nsl, i64 0, i64 0], .own⟩).set n3 ⟨[vsp, i64 s.res.1, i64 s.res.2], .own⟩).set (n3 + 1) ⟨[vup, i64 u.res.1, i64 u.res.2], .own⟩ = h4 at e4 m4 g4s g4u ⊢
  have g4m : h4.get n1 = some ⟨[i64 m.rec_, i64 m.ifc, vmf], .own⟩ := by rw [m4 _ (by omega), g3]
  have st : ∀ {n' h'}, Ev No (n3 + 1 + 1) h4 n' h' → h'.get n3 = some ⟨[vsp, i64 s.res.1, i64 s.res.2], .own⟩ ∧ h'.get (n3 + 1) = some ⟨[vup, i64 u.res.1, i64 u.res.2], .own⟩ ∧ h'.get n1 = some ⟨[i64 m.rec_, i64 m.ifc, vmf], .own⟩ ∧ SlR h' n0 2 TyC vsp s.params ∧ SlR h' n0 2 TyC vup u.params ∧ n3 + 1 + 1 ≤ n' := fun e' =>
    ⟨by rw [e'.no (by omega), g4s], by rw [e'.no (by omega), g4u], by rw [e'.no (by omega), g4m], ssp.keep (fun b hb => (e'.no (by omega)).trans (m4 b (by omega))) fun _ _ h => h, sup.keep (fun b hb => (e'.no (by omega)).trans (m4 b (by omega))) fun _ _ h => h, e'.le⟩
  have qf : ∀ {n' h'}, Ev No (n3 + 1 + 1) h4 n' h' → Q (bo false) n' h' := fun e' => q false _ _ (Ev.more e2 (Ev.more e4 e')) (by simp)
  obtain ⟨j1, j2', j3', ss4, su4, _⟩ := st (Ev.start e4.f)
  refine Wp.jn (fun j => ∀ z n' h', Ev No (n3 + 1 + 1) h4 n' h' → (z = false → s.params.length = u.params.length + 1 ∧ s.params[0]? = some (1, m.rec_) ∧ s.res = u.res) → Wp (j (pt bp 0) (i64 (k : Int)) (pt n1 0) vw (i64 (i : Int)) (pt n3 0) (pt (n3 + 1) 0) (bo z)) n' h' Q) ?_ fun j4 hj4 => ?_
  case refine_2 =>
    simp [wpS.1, wpS.2.1, wpS.2.2.1, wpS.2.2.2.2, wpM, wpN, j1, j2', j3', ldv_own, ss4.len, su4.len, wrap_succ (show u.params.length < 9223372036854775807 by omega)]
    refine ⟨fun _ => hj4 _ _ _ (Ev.start e4.f) (by simp), fun hl => ?_⟩
    obtain ⟨t, ht, _⟩ := Sl.get (show 0 < s.params.length by omega)
    obtain ⟨b, o, cs, kd, _, hix, hb1, hkd, ⟨rfl, _⟩, hcs, _, hl1, hd1⟩ := ss4.at ht
    simp at hix
    simp [wpS.1, wpS.2.1, wpS.2.2.1, wpS.2.2.2.2, wpM, wpN, hix, hb1, ldn_live hkd, hl1, hd1, j3', ldv_own, fillA, rep, over, oneS]
    refine cl_eq (t := t) (u := (1, m.rec_)) e4.f fun n5 h5 e5 => ?_
    obtain ⟨j1, j2', j3', ss5, su5, le5⟩ := st e5
    simp [wpS.1, wpS.2.1, wpS.2.2.1, wpS.2.2.2.2, wpM, wpN, j1, j2', ldn]
    refine ⟨fun _ => hj4 _ _ _ e5 (by simp), fun h9 => ?_⟩
    refine cl_eq (t := s.res) (u := u.res) e5.f fun n6 h6 e6 => ?_
    simp only [wpS.2.2.2.2]
    exact hj4 _ _ _ (Ev.more e5 e6) fun hz => ⟨by omega, by rw [ht, h9], by simpa using hz⟩
  intro z3 n5 h5 e5 hz3
  refine Wp.bool.2 ⟨fun _ => Wp.retI.2 (qf e5), fun hz4 => ?_⟩
  obtain ⟨hl, hp0, hres⟩ := hz3 hz4
  refine Wp.loop8 (fun d3 x0 x1 x2 x3 x4 x5 x6 x7 n' h' => Ev No (n3 + 1 + 1) h4 n' h' ∧ x0 = pt bp 0 ∧ x1 = i64 (k : Int) ∧ x2 = pt n1 0 ∧ x3 = vw ∧ x4 = i64 (i : Int) ∧ x5 = pt n3 0 ∧ x6 = pt (n3 + 1) 0 ∧ ∃ (l : Nat), x7 = i64 (l : Int) ∧ l + d3 = u.params.length ∧ ∀ (j : Nat), j < l → s.params[j + 1]? = u.params[j]?) ?_ (d := u.params.length) ⟨e5, rfl, rfl, rfl, rfl, rfl, rfl, rfl, 0, rfl, by omega, by omega⟩ (by omega)
  rintro d3 _ _ _ vw _ _ _ _ n6 h6 rec3 ⟨e6, rfl, rfl, rfl, rfl, rfl, rfl, rfl, l, rfl, hl3, hc⟩ hr3
  obtain ⟨j1, j2', j3', ss6, su6, le6⟩ := st e6
  have wl := wrap_succ (show l < 9223372036854775807 by omega)
  simp [wpS, wpM, wpN, j1, j2', ldv_own, su6.len, wl]
  refine ⟨fun hlt3 => ?_, fun hge3 => ?_⟩
  · obtain ⟨t, ht, _⟩ := Sl.get (show l + 1 < s.params.length by omega)
    obtain ⟨t', ht', _⟩ := Sl.get (show l < u.params.length by omega)
    obtain ⟨b, o, cs, kd, _, hix, hb1, hkd, ⟨rfl, _⟩, hcs, _, hl1, hd1⟩ := ss6.at ht
    obtain ⟨b', o', cs', kd', _, hix', hb1', hkd', ⟨rfl, _⟩, hcs', _, hl1', hd1'⟩ := su6.at ht'
    simp at hix
    simp [wpS, wpM, wpN, hix, hb1, ldn_live hkd, hl1, hd1, j2', ldv_own, hix', hb1', ldn_live hkd', hl1', hd1']
    refine cl_eq (t := t) (u := t') e6.f fun n7 h7 e7 => ?_
    simp [wpS, wl]
    refine ⟨fun _ => qf (Ev.more e6 e7), fun h9 => ?_⟩
    refine hr3 (d3 - 1) _ _ _ _ _ _ _ _ _ _ (by omega) ⟨Ev.more e6 e7, rfl, rfl, rfl, rfl, rfl, rfl, rfl, l + 1, by simp, by omega, fun j hj => ?_⟩
    by_cases hjl : j = l
    · subst hjl; rw [ht, ht', h9]
    · exact hc j (by omega)
  · refine hj3 _ _ (Ev.more e4 e6) ?_ hres
    apply List.ext_getElem?
    intro j
    cases j with
    | zero => rw [hp0]; rfl
    | succ j =>
      rw [List.getElem?_cons_succ]
      rcases Nat.lt_or_ge j u.params.length with h | h
      · exact hc j (by omega)
      · rw [List.getElem?_eq_none (by omega), List.getElem?_eq_none (by omega)]
end Go.Fn
end
section
set_option linter.unusedVariables false
namespace Go.Fn
open Go Go.Fw

variable {F n : Nat} {h : H} {Q : Post}

/-- Lists of numbers, in blocks of which B holds. -/
def LL (h : H) (B : Nat → Prop) (v : V) (xss : List (List Int)) : Prop := Sl h B 1 (fun cs xs => ∃ u, cs = [u] ∧ Sl h B 1 I1 u xs) v xss
/-- Such a list under way, its end still grown. -/
def LG (h : H) (lo hi : Nat) (v : V) (xss : List (List Int)) : Prop := Gs h lo 1 (fun cs xs => ∃ u, cs = [u] ∧ Sl h (fun b => lo ≤ b ∧ b < hi ∧ ¬ InB v b) 1 I1 u xs) v xss
theorem LG.ll {lo hi : Nat} {v : V} {xss : List (List Int)} (g : LG h lo hi v xss) (f : Fr hi h) (hb : xss.length < 9223372036854775808) : LL h (fun b => lo ≤ b ∧ b < hi) v xss :=
  (Gs.sl g hb).keep (fun b hb => Gs.lt g f hb) (fun _ _ => rfl) fun cs xs ⟨u, e, x⟩ => ⟨u, e, x.keep (fun b hb => ⟨hb.1, hb.2.1⟩) (fun _ _ => rfl) fun _ _ h => h⟩
theorem LG.ev {n' lo hi : Nat} {h' : H} {v : V} {xss : List (List Int)} (g : LG h lo n v xss) (f : Fr n h) (e : Ev No n h n' h') : LG h' lo n' v xss := by
  have le := e.le
  exact Gs.keep g (fun c hc => e.no (Gs.lt g f hc).2) fun cs xs ⟨u, e', x⟩ => ⟨u, e', x.keep (fun b hb => ⟨hb.1, by omega, hb.2.2⟩) (fun b hb => e.no hb.2.1) fun _ _ h => h⟩
theorem LG.push {n0 : Nat} {h0 : H} {K : V → St} {v u : V} {xss : List (List Int)} {xs : List Int} (e : Ev No n0 h0 n h) (g : LG h n0 n v xss) (hu : Sl h (fun b => n0 ≤ b ∧ b < n ∧ ¬ InB v b) 1 I1 u xs) (hb : xss.length < 1000000)
    (k : ∀ h' v', Ev No n0 h0 (n + 2) h' → LG h' n0 (n + 2) v' (xss ++ [xs]) → Wp (K v') (n + 2) h' Q) : Wp (kBuildSlice 1 (rep 1 [nsl]) [⟨0, 1, false, u⟩] fun t => kApp 1 24 v t K) n h Q := by
  refine Gs.push (s := 1) (x := xs) (E := fun cs xs => ∃ u, cs = [u] ∧ Sl h (fun b => n0 ≤ b ∧ b < n ∧ ¬ InB v b) 1 I1 u xs) (es := [u]) e g (by simp [fillA, rep, over, hu.one]) rfl (by decide) (by simp [hu.one]) ⟨u, rfl, hu⟩ ⟨hb, by decide⟩ fun h' v' e' g' _ same new => ?_
  refine k h' v' e' ?_
  exact Gs.keep g' (fun _ _ => rfl) fun cs xs ⟨u, e2, x⟩ => ⟨u, e2, x.keep (fun b hb => ⟨hb.1, by omega, fun q => by have := new b q; omega⟩) (fun b hb => same b hb.2.1 hb.2.2) fun _ _ h => h⟩

theorem blocks_wp {n0 : Nat} {x : Fun} {v w : V} (sr : SlR h n0 2 TyC v x.regs) (sb : SlR h n0 5 (BloC h n0) w x.blocks) (lx : x.blocks.length ≤ 12) (ok : ∀ b ∈ x.blocks, EndOk x b) (hF : 1000 < F) (f : Fr n h) (hn : n0 ≤ n)
    (q : ∀ n' h' v xss, Ev No n h n' h' → LL h' (fun b => n ≤ b ∧ b < n') v xss → xss.length = x.blocks.length → (∀ xs ∈ xss, xs.length ≤ 2 ∧ ∀ z ∈ xs, 0 ≤ z ∧ z < (x.blocks.length : Int)) → Q v n' h') : Wp (R8_Blocks F (funV x v w)) n h Q := by
  unfold R8_Blocks
  have e := (Ev.start f).new ⟨[i64 x.sig, v, w], .own⟩
  refine (Wp.boxNI f).2 ⟨by simp [oneS, sr.one, sb.one], ?_⟩
  have sb0 := sb.keep (Kp.ev e hn) (BloC.keep (Kp.ev e hn))
  have g0 : (h.set n ⟨[i64 x.sig, v, w], .own⟩).get n = some ⟨[i64 x.sig, v, w], .own⟩ := H.get_set_same _ _ _
  simp only [List.toList_toArray]
  generalize h.set n ⟨[i64 x.sig, v, w], .own⟩ = h0 at e sb0 g0 ⊢
  refine Wp.jn (fun j => ∀ n' h' v xss, Ev No (n + 1) h0 n' h' → LG h' (n + 1) n' v xss → xss.length = x.blocks.length → (∀ xs ∈ xss, xs.length ≤ 2 ∧ ∀ z ∈ xs, 0 ≤ z ∧ z < (x.blocks.length : Int)) → Wp (j v) n' h' Q) ?_ fun j hj => ?_
  case refine_1 =>
    intro n' h' v' xss e' g' hl ha
    refine Wp.retI.2 (q _ _ _ xss (Ev.more e e') ?_ hl ha)
    exact Sl.keep (g'.ll e'.f (by omega)) (fun b hb => ⟨by omega, hb.2⟩) (fun _ _ => rfl) fun cs xs ⟨u, e2, x⟩ => ⟨u, e2, x.keep (fun b hb => ⟨by omega, hb.2⟩) (fun _ _ => rfl) fun _ _ h => h⟩
  refine Wp.loop3 (fun d x0 x1 x2 n' h' => Ev No (n + 1) h0 n' h' ∧ x0 = pt n 0 ∧ ∃ (k : Nat) (xss : List (List Int)), x2 = i64 (k : Int) ∧ k + d = x.blocks.length ∧ LG h' (n + 1) n' x1 xss ∧ xss.length = k ∧ (∀ xs ∈ xss, xs.length ≤ 2 ∧ ∀ z ∈ xs, 0 ≤ z ∧ z < (x.blocks.length : Int))) ?_ (d := x.blocks.length) ⟨Ev.start e.f, rfl, 0, [], rfl, by omega, Gs.nil, rfl, by simp⟩ (by omega)
  rintro d _ out _ n1 h1 rec ⟨e1, rfl, k, xss, rfl, hk, gl, hxl, ha⟩ hr
  have le1 := e1.le
  have wk := wrap_succ (show k < 9223372036854775807 by omega)
  have sb1 := sb0.keep (Kp.ev e1 (by omega)) (BloC.keep (Kp.ev e1 (by omega)))
  have g1 : h1.get n = some ⟨[i64 x.sig, v, w], .own⟩ := by rw [e1.no (by omega), g0]
  simp only [wpS.1, wpS.2.1, wpS.2.2.1, wpS.2.2.2.2, wpM, g1, ldv_own, Nat.zero_add, List.getElem?_cons_succ, List.getElem?_cons_zero, Option.some.injEq, exists_eq_left', sb1.len, decide_eq_true_eq, decide_eq_false_iff_not]
  refine ⟨fun hlt => ?_, fun hge => hj _ _ _ _ e1 gl (by omega) ha⟩
  obtain ⟨bl, hbl, _⟩ := Sl.get (show k < x.blocks.length by omega)
  have hend := ok bl (List.mem_of_getElem? hbl)
  have see : ∀ {n' h'}, Ev No n1 h1 n' h' → h'.get n = some ⟨[i64 x.sig, v, w], .own⟩ ∧ SlR h' n0 5 (BloC h' n0) w x.blocks ∧ n1 ≤ n' := fun e' => ⟨by rw [e'.no (by omega), g1], sb1.keep (Kp.ev e' (by omega)) (BloC.keep (Kp.ev e' (by omega))), e'.le⟩
  -- the second
  refine Wp.jn (fun j => ∀ n' h' u xs, Ev No n1 h1 n' h' → Gs h' n1 1 I1 u xs → xs.length ≤ 1 → (∀ z ∈ xs, 0 ≤ z ∧ z < (x.blocks.length : Int)) → Wp (j (pt n 0) out (i64 (k : Int)) u) n' h' Q) ?_ fun j11 hj11 => ?_
  case refine_1 =>
    intro n2 h2 u xs e2 gu hxs hz
    obtain ⟨g2, sb2, le2⟩ := see e2
    refine Wp.jn (fun j => ∀ n' h' u xs, Ev No n1 h1 n' h' → Gs h' n1 1 I1 u xs → xs.length ≤ 2 → (∀ z ∈ xs, 0 ≤ z ∧ z < (x.blocks.length : Int)) → Wp (j (pt n 0) out (i64 (k : Int)) u) n' h' Q) ?_ fun j16 hj16 => ?_
    case refine_1 =>
      intro n3 h3 u xs e3 gu hxs hz
      have le3 := e3.le
      refine LG.push (Ev.more e1 e3) (LG.ev (hi := 0) gl e1.f e3) ((gu.sl (by omega)).keep (fun b hb => ?_) (fun _ _ => rfl) fun _ _ h => h) (by omega) fun h4 v4 e4 g4 => ?_
      · have := gu.lt e3.f hb
        exact ⟨by omega, this.2, fun q => by have := (Gs.lt gl e1.f q).2; omega⟩
      simp only [wpS, wk]
      refine hr (d - 1) _ _ _ _ _ (by omega) ⟨e4, rfl, k + 1, _, rfl, by omega, g4, by simp [hxl], fun ys hy => ?_⟩
      rcases List.mem_append.1 hy with hy | hy
      · exact ha ys hy
      · simp at hy; subst hy; exact ⟨hxs, hz⟩
    refine Wp.jn (fun j => ∀ c : Bool, (c = true → bl.fin = 2) → Wp (j (pt n 0) out (i64 (k : Int)) u (bo c)) n2 h2 Q) ?_ fun j24 hj24 => ?_
    case refine_1 =>
      intro c hc
      refine Wp.bool.2 ⟨fun hct => ?_, fun _ => hj16 _ _ _ _ e2 gu (by omega) hz⟩
      obtain ⟨b, o, cs, kd, _, hix, hb1, hkd, ⟨vc, rfl, _⟩, hcs, _⟩ := sb2.at hbl
      have c4 := hcs 4 _ rfl
      simp only [wpS.1, wpS.2.1, wpS.2.2.1, wpS.2.2.2.2, wpM, g2, ldv_own, Nat.zero_add, List.getElem?_cons_succ, List.getElem?_cons_zero, Option.some.injEq, exists_eq_left', hix, hb1, ldv_live hkd, c4]
      refine Gs.push (s := 1) (x := bl.els) (E := I1) (es := [i64 bl.els]) e2 gu (by simp [fillA, rep, over, oneS]) rfl (by decide) (by simp [oneS]) rfl ⟨by omega, by decide⟩ fun h' v' e' g' _ _ _ => ?_
      refine hj16 _ _ _ _ e' g' (by simp; omega) fun z hzz => ?_
      rcases List.mem_append.1 hzz with h | h
      · exact hz z h
      · simp at h; subst h
        rcases hend with h | h | h
        · have := hc hct; omega
        · exact h.2.2.2
        · have := hc hct; omega
    obtain ⟨b, o, cs, kd, _, hix, hb1, hkd, ⟨vc, rfl, _⟩, hcs, _⟩ := sb2.at hbl
    have c1 := hcs 1 _ rfl
    have c3 := hcs 3 _ rfl
    have c4 := hcs 4 _ rfl
    simp [wpS.1, wpS.2.1, wpS.2.2.1, wpS.2.2.2.2, wpM, g2, ldv_own, hix, hb1, ldv_live hkd, c1, c3, c4]
    exact ⟨fun h2 => hj24 _ fun _ => h2, fun _ => hj24 _ (by simp)⟩
  refine Wp.jn (fun j => ∀ c : Bool, (c = true → bl.fin = 1 ∨ bl.fin = 2) → Wp (j (pt n 0) out (i64 (k : Int)) nsl (bo c)) n1 h1 Q) ?_ fun j54 hj54 => ?_
  case refine_1 =>
    intro c hc
    refine Wp.bool.2 ⟨fun hct => ?_, fun _ => hj11 _ _ _ [] (Ev.start e1.f) Gs.nil (by simp) (by simp)⟩
    obtain ⟨b, o, cs, kd, _, hix, hb1, hkd, ⟨vc, rfl, _⟩, hcs, _⟩ := sb1.at hbl
    have c3 := hcs 3 _ rfl
    simp only [wpS.1, wpS.2.1, wpS.2.2.1, wpS.2.2.2.2, wpM, g1, ldv_own, Nat.zero_add, List.getElem?_cons_succ, List.getElem?_cons_zero, Option.some.injEq, exists_eq_left', hix, hb1, ldv_live hkd, c3]
    refine Gs.push (s := 1) (x := bl.to) (E := I1) (es := [i64 bl.to]) (Ev.start e1.f) (xs := []) Gs.nil (by simp [fillA, rep, over, oneS]) rfl (by decide) (by simp [oneS]) rfl ⟨by simp, by decide⟩ fun h' v' e' g' _ _ _ => ?_
    refine hj11 _ _ _ _ e' g' (by simp) fun z hzz => ?_
    simp at hzz; subst hzz
    rcases hend with h | h | h
    · exact h.2
    · exact h.2.2.1
    · have := hc hct; omega
  obtain ⟨b, o, cs, kd, _, hix, hb1, hkd, ⟨vc, rfl, _⟩, hcs, _⟩ := sb1.at hbl
  have c1 := hcs 1 _ rfl
  simp [wpS.1, wpS.2.1, wpS.2.2.1, wpS.2.2.2.2, wpM, g1, ldv_own, hix, hb1, ldv_live hkd, c1]
  exact ⟨fun h2 => hj54 _ fun _ => .inl h2, fun _ => hj54 _ fun h => .inr (by simpa using h)⟩
end Go.Fn
end
section
set_option linter.unusedVariables false
namespace Go.Fn
open Go Go.Fw

variable {F n : Nat} {h : H} {Q : Post}

theorem ixI {K : V → St} {s b o len cap i : Nat} (hi : i < len) : Wp (kIndexAddr s (sl b o len cap) (i64 (i : Int)) K) n h Q ↔ Wp (K (pt b (o + i * s))) n h Q :=
  Wp.eq (by show bnd _ _ = _; rw [st_ix, if_pos (by omega), Int.toNat_natCast])
abbrev bos (bs : List Bool) : List V := bs.map fun b => bo b
/-- Marks, in a block of their own. -/
def Mk (h : H) (b : Nat) (bs : List Bool) : Prop := h.get b = some ⟨bos bs, .own⟩
theorem rep_bos : ∀ N : Nat, rep N [bo false] = bos (List.replicate N false)
  | 0 => rfl
  | N + 1 => by
    have := rep_bos N
    unfold rep at this ⊢
    rw [List.replicate_succ, List.flatten_cons, this, List.replicate_succ]; rfl
theorem Wp.marks {K : V → St} {N : Nat} (hN : N ≤ 100000) (f : Fr n h) (k : ∀ h', Ev No n h (n + 1) h' → Mk h' n (List.replicate N false) → Wp (K (sl n 0 N N)) (n + 1) h' Q) : Wp (kMake 1 [bo false] (i64 (N : Int)) (i64 (N : Int)) K) n h Q := by
  have e := rep_bos N
  have h1 : (rep N [bo false]).all one = true := by rw [e]; simp [oneS]
  have := k _ ((Ev.start f).new ⟨bos (List.replicate N false), .own⟩) (H.get_set_same _ _ _)
  refine Wp.of ?_ this
  have := Fw.run_make (k := K) (bytes := 1) (z := [bo false]) (l := N) (c := N) (by rw [Int.toNat_natCast]; omega) f (by rw [Int.toNat_natCast]; exact h1)
  rw [Int.toNat_natCast, e] at this
  exact this
theorem Mk.load {K : V → St} {b i : Nat} {bs : List Bool} (m : Mk h b bs) (hi : i < bs.length) : Wp (kLoad (pt b i) K) n h Q ↔ Wp (K (bo bs[i])) n h Q := by
  rw [Wp.loadI, m]
  simp [ldv_own, hi]
theorem Mk.mark {K : V → St} {b i : Nat} {bs : List Bool} (m : Mk h b bs) (hi : i < bs.length) (w : Wp (K undef) n (h.set b ⟨bos (bs.set i true), .own⟩) Q) : Wp (kStore (pt b i) (bo true) K) n h Q := by
  rw [Wp.storeI, m]
  refine ⟨rfl, by simpa using hi, ?_⟩
  rw [show (bos bs).set i (bo true) = bos (bs.set i true) by simp [bos, List.map_set]]
  exact w
theorem Mk.sl {b : Nat} {bs : List Bool} (m : Mk h b bs) (hl : bs.length < 9223372036854775808) : Sl h (· = b) 1 (fun cs b => cs = [bo b]) (sl b 0 bs.length bs.length) bs :=
  ⟨hl, .inr ⟨b, 0, bs.length, bos bs, .own, rfl, fun _ => ⟨rfl, m, by decide, by simp⟩, fun i x hx => by
    have hi := (List.getElem?_eq_some_iff.1 hx).1
    have he := (List.getElem?_eq_some_iff.1 hx).2
    show _ = _
    rw [Nat.zero_add, Nat.mul_one, List.drop_eq_getElem_cons (by simpa using hi), List.take_succ_cons, List.take_zero]
    simp [he]⟩⟩
theorem count_mark {bs : List Bool} {i : Nat} (hi : i < bs.length) (hf : bs[i] = false) : (bs.set i true).count false + 1 = bs.count false := by
  rw [List.count_set hi, hf]
  have : 0 < bs.count false := List.count_pos_iff.2 (hf ▸ List.getElem_mem hi)
  simp; omega

theorem reach_wp {B : Nat → Prop} {vto vfr : V} {xss : List (List Int)} {fr : List Int} {w : Int} (lt : LL h B vto xss) (lf : Sl h B 1 I1 vfr fr) (hB : ∀ b, B b → b < n) (ok : ∀ xs ∈ xss, xs.length ≤ 1000 ∧ ∀ z ∈ xs, 0 ≤ z ∧ z < (xss.length : Int)) (hl : xss.length ≤ 1000) (hfr : fr.length ≤ 1000) (hF : 100000 < F) (f : Fr n h)
    (q : ∀ n' h' v bs, Ev No n h n' h' → Sl h' (fun b => n ≤ b ∧ b < n') 1 (fun cs b => cs = [bo b]) v bs → bs.length = xss.length → Q v n' h') : Wp (R1_Reach F vto vfr (i64 w)) n h Q := by
  unfold R1_Reach
  refine lt.len.2 (Wp.marks (by omega) f fun h0 e0 m0 => ?_)
  -- what stays: who is marked, who waits
  let Iv := fun (bs : List Bool) (ws : List Int) (v : V) (n' : Nat) (h' : H) => Ev No n h n' h' ∧ n < n' ∧ Mk h' n bs ∧ bs.length = xss.length ∧ Qs h' n 1 I1 v ws ∧ ¬ InB v n ∧ ∀ z ∈ ws, 0 ≤ z ∧ z < (xss.length : Int)
  have cnt : ∀ bs : List Bool, bs.length = xss.length → bs.count false ≤ xss.length := fun bs hb => hb ▸ List.count_le_length
  have put : ∀ {bs ws v n' h'} {K : V → St} (i : Nat), Iv bs ws v n' h' → (hi : i < bs.length) → bs[i] = false → bs.count false + ws.length ≤ 3000 → (∀ n2 h2 v2, Iv (bs.set i true) (ws ++ [(i : Int)]) v2 n2 h2 → Wp (K v2) n2 h2 Q) →
      Wp (kIndexAddr 1 (sl n 0 xss.length xss.length) (i64 (i : Int)) fun v87 => kStore v87 (bo true) fun _ => kBuildSlice 1 (rep 1 [(i64 0)]) [⟨0, 1, false, (i64 (i : Int))⟩] fun v89 => kApp 1 8 v v89 K) n' h' Q := by
    rintro bs ws v n' h' K i ⟨e, hlt, m, hb, qs, hne, hz⟩ hi hf hc k
    refine (ixI (by omega)).2 ?_
    rw [Nat.zero_add, Nat.mul_one]
    refine m.mark hi ?_
    have e2 := e.set (b := n) ⟨bos (bs.set i true), .own⟩ (by omega) hlt
    have qs2 : Qs (h'.set n ⟨bos (bs.set i true), .own⟩) n 1 I1 v ws := qs.keep (fun c hc => by rw [H.get_set_ne _ _ (fun q => hne (by subst q; exact hc))]) fun _ _ h => h
    refine Qs.push (s := 1) (x := (i : Int)) (E := I1) (es := [i64 (i : Int)]) e2 qs2 (by simp [fillA, rep, over, oneS]) rfl (by decide) (by simp [oneS]) rfl ⟨by omega, by decide⟩ fun h2 v2 e3 g3 same new => ?_
    refine k _ _ _ ⟨e3, by omega, ?_, by simp [hb], g3, fun q => by have := new n q; omega, fun z hzz => ?_⟩
    · show h2.get n = _
      rw [same n hlt hne, H.get_set_same]
    · rcases List.mem_append.1 hzz with h | h
      · exact hz z h
      · simp at h; subst h; omega
  refine Wp.jn (fun j => ∀ bs ws v n' h', Iv bs ws v n' h' → bs.count false + ws.length ≤ 3000 → Wp (j vto (i64 w) (sl n 0 xss.length xss.length) v) n' h' Q) ?_ fun j hj => ?_
  case refine_2 =>
    refine Wp.loop6 (fun d x0 x1 x2 x3 x4 x5 n' h' => x0 = vto ∧ x1 = vfr ∧ x2 = i64 w ∧ x3 = sl n 0 xss.length xss.length ∧ ∃ (k : Nat) (bs : List Bool) (ws : List Int), x5 = i64 (k : Int) ∧ k + d = fr.length ∧ Iv bs ws x4 n' h' ∧ bs.count false + ws.length ≤ xss.length) ?_ (d := fr.length) ⟨rfl, rfl, rfl, rfl, 0, _, [], rfl, by omega, ⟨e0, by omega, m0, by simp, Qs.nil, (fun ⟨_, _, _, q⟩ => by cases q), by simp⟩, by simp⟩ (by omega)
    rintro d vto vfr _ _ v _ n1 h1 rec ⟨rfl, rfl, rfl, rfl, k, bs, ws, rfl, hk, iv, hc⟩ hr
    have iv' := iv
    obtain ⟨e1, hlt, m, hb, qs, hne, hz⟩ := iv'
    have lt1 : Sl h1 B 1 (fun cs xs => ∃ u, cs = [u] ∧ Sl h1 B 1 I1 u xs) vto xss := lt.keep (B' := B) (fun _ h => h) (fun b hb => e1.no (hB b hb)) fun cs xs ⟨u, e2, x⟩ => ⟨u, e2, x.keep (fun _ h => h) (fun b hb => e1.no (hB b hb)) fun _ _ h => h⟩
    have lf1 := lf.keep (B' := B) (fun _ h => h) (fun b hb => e1.no (hB b hb)) fun _ _ h => h
    have wk := wrap_succ (show k < 9223372036854775807 by omega)
    simp only [wpS.1, wpS.2.1, wpS.2.2.1, wpS.2.2.2.2, lf1.len, decide_eq_true_eq, decide_eq_false_iff_not]
    refine ⟨fun hlt => ?_, fun hge => hj _ _ _ _ _ iv (by omega)⟩
    obtain ⟨z, hz1, _⟩ := Sl.get (show k < fr.length by omega)
    obtain ⟨b, o, cs, kd, _, hix, hb1, hkd, rfl, hcs, _⟩ := lf1.at hz1
    have c0 : cs[o]? = _ := hcs 0 _ rfl
    refine Wp.jn (fun j => ∀ v bs ws n' h', Iv bs ws v n' h' → bs.count false + ws.length ≤ xss.length → Wp (j vto vfr (i64 w) (sl n 0 xss.length xss.length) v (i64 (k : Int))) n' h' Q) ?_ fun j68 hj68 => ?_
    case refine_1 =>
      intro v bs ws n' h' iv hc
      simp only [wpS, wk]
      exact hr (d - 1) _ _ _ _ _ _ _ _ (by omega) ⟨rfl, rfl, rfl, rfl, k + 1, bs, ws, rfl, by omega, iv, hc⟩
    simp only [hix, wpM.1, hb1, ldv_live hkd, c0, Option.some.injEq, exists_eq_left']
    refine Wp.jn (fun j => ∀ c : Bool, (c = true → ∃ (i : Nat) (hi : i < bs.length), z = (i : Int) ∧ bs[i] = false) → Wp (j vto vfr (i64 w) (sl n 0 xss.length xss.length) v (i64 (k : Int)) (i64 z) (bo c)) n1 h1 Q) ?_ fun j78 hj78 => ?_
    case refine_1 =>
      intro c hcc
      refine Wp.bool.2 ⟨fun hct => ?_, fun _ => hj68 _ _ _ _ _ iv hc⟩
      obtain ⟨i, hi, rfl, hf⟩ := hcc hct
      refine put i iv hi hf (by omega) fun n2 h2 v2 iv2 => hj68 _ _ _ _ _ iv2 ?_
      have := count_mark hi hf
      simp; omega
    simp only [wpS.1, wpS.2.1, wpS.2.2.1, wpS.2.2.2.2, lt1.len, decide_eq_true_eq, decide_eq_false_iff_not]
    refine ⟨fun h1 => ⟨fun h2 => ?_, fun _ => hj78 _ (by simp)⟩, fun _ => hj78 _ (by simp)⟩
    obtain ⟨i, rfl⟩ : ∃ i : Nat, z = i := ⟨z.toNat, by omega⟩
    have hi : i < bs.length := by omega
    refine (ixI (by omega)).2 ?_
    rw [Nat.zero_add, Nat.mul_one, m.load hi]
    simp only [wpS.1, wpS.2.1, wpS.2.2.1, wpS.2.2.2.2]
    exact ⟨fun h3 => hj78 _ fun _ => ⟨i, hi, rfl, by simpa using h3⟩, fun _ => hj78 _ (by simp)⟩
  intro bs ws v n1 h1 iv hc
  refine Wp.jn (fun j => ∀ bs ws v n' h', Iv bs ws v n' h' → Wp (j (sl n 0 xss.length xss.length)) n' h' Q) ?_ fun j7 hj7 => ?_
  case refine_1 =>
    rintro bs ws v n' h' ⟨e, hlt, m, hb, _⟩
    have := m.sl (by omega)
    rw [hb] at this
    exact Wp.retI.2 (q _ _ _ bs e (this.keep (fun b hb => by rw [hb]; omega) (fun _ _ => rfl) fun _ _ h => h) hb)
  refine Wp.loop4 (fun d x0 x1 x2 x3 n' h' => x0 = vto ∧ x1 = i64 w ∧ x2 = sl n 0 xss.length xss.length ∧ ∃ (bs : List Bool) (ws : List Int), Iv bs ws x3 n' h' ∧ bs.count false + ws.length = d ∧ d ≤ 3000) ?_ (d := bs.count false + ws.length) ⟨rfl, rfl, rfl, bs, ws, iv, rfl, hc⟩ (by omega)
  clear iv hc n1 h1 bs ws v
  rintro d vto _ _ v n1 h1 rec ⟨rfl, rfl, rfl, bs, ws, iv, hd, hd2⟩ hr
  obtain ⟨e1, hlt, m, hb, qs, hne, hz⟩ := iv
  have sl := qs.sl (by omega)
  simp only [wpS.1, wpS.2.1, wpS.2.2.1, wpS.2.2.2.2, sl.len, decide_eq_true_eq, decide_eq_false_iff_not]
  refine ⟨fun hpos => ?_, fun _ => hj7 _ _ _ _ _ ⟨e1, hlt, m, hb, qs, hne, hz⟩⟩
  cases ws with
  | nil => simp at hpos
  | cons a ws =>
  obtain ⟨b, o, cs, kd, _, hix, hb1, hkd, rfl, hcs, _⟩ := sl.at (i := 0) rfl
  have c0 : cs[o]? = _ := hcs 0 _ rfl
  obtain ⟨v', hv', qs', hin⟩ := qs.tail
  have hix := hix
  simp only [Int.natCast_zero] at hix
  simp only [hix, wpM.1, hb1, ldv_live hkd, c0, Option.some.injEq, exists_eq_left', hv']
  have ha := hz a List.mem_cons_self
  obtain ⟨ka, rfl⟩ : ∃ i : Nat, a = i := ⟨a.toNat, by omega⟩
  obtain ⟨xs, hxs, _⟩ := Sl.get (show ka < xss.length by omega)
  obtain ⟨lx, rx⟩ := ok xs (List.mem_of_getElem? hxs)
  simp only [List.length_cons] at hd
  refine Wp.loop6 (fun d2 x0 x1 x2 x3 x4 x5 n' h' => x0 = vto ∧ x1 = i64 w ∧ x2 = Fw.sl n 0 xss.length xss.length ∧ x4 = i64 (ka : Int) ∧ ∃ (k : Nat) (bs : List Bool) (ws : List Int), x5 = i64 (k : Int) ∧ k + d2 = xs.length ∧ Iv bs ws x3 n' h' ∧ bs.count false + ws.length < d) ?_ (d := xs.length) ⟨rfl, rfl, rfl, rfl, 0, bs, ws, rfl, by omega, ⟨e1, hlt, m, hb, qs', fun q => hne (hin _ q), fun z hzz => hz z (List.mem_cons_of_mem _ hzz)⟩, by omega⟩ (by omega)
  clear hv' qs' hin v' hix hcs c0 hb1 hkd sl hpos qs hne hz m hb e1 hlt hd ws bs
  rintro d2 vto _ _ v _ _ n2 h2 rec2 ⟨rfl, rfl, rfl, rfl, k, bs, ws, rfl, hk, iv, hd⟩ hr2
  obtain ⟨e2, hlt, m, hb, qs, hne, hz⟩ := iv
  have lt2 : Sl h2 B 1 (fun cs xs => ∃ u, cs = [u] ∧ Sl h2 B 1 I1 u xs) vto xss := lt.keep (B' := B) (fun _ h => h) (fun b hb => e2.no (hB b hb)) fun cs xs ⟨u, e2', x⟩ => ⟨u, e2', x.keep (fun _ h => h) (fun b hb => e2.no (hB b hb)) fun _ _ h => h⟩
  obtain ⟨b, o, cs, kd, _, hix, hb1, hkd, ⟨u, rfl, su⟩, hcs, _⟩ := lt2.at hxs
  have c0 : cs[o]? = _ := hcs 0 _ rfl
  have wk := wrap_succ (show k < 9223372036854775807 by omega)
  simp only [hix, wpM.1, hb1, ldv_live hkd, c0, Option.some.injEq, exists_eq_left', wpS.1, wpS.2.1, wpS.2.2.1, wpS.2.2.2.2, su.len, decide_eq_true_eq, decide_eq_false_iff_not]
  refine ⟨fun hlt2 => ?_, fun hge2 => hr _ _ _ _ _ _ _ hd ⟨rfl, rfl, rfl, bs, ws, ⟨e2, hlt, m, hb, qs, hne, hz⟩, rfl, by omega⟩⟩
  obtain ⟨z, hz1, _⟩ := Sl.get (show k < xs.length by omega)
  have hzr := rx z (List.mem_of_getElem? hz1)
  obtain ⟨i, rfl⟩ : ∃ i : Nat, z = i := ⟨z.toNat, by omega⟩
  obtain ⟨b3, o3, cs3, kd3, _, hix3, hb3, hkd3, rfl, hcs3, _⟩ := su.at hz1
  have c3 : cs3[o3]? = _ := hcs3 0 _ rfl
  refine Wp.jn (fun j => ∀ v bs ws n' h', Iv bs ws v n' h' → bs.count false + ws.length < d → Wp (j vto (i64 w) (Fw.sl n 0 xss.length xss.length) v (i64 (ka : Int)) (i64 (k : Int))) n' h' Q) ?_ fun j30 hj30 => ?_
  case refine_1 =>
    intro v bs ws n' h' iv hc
    simp only [wpS, wk]
    exact hr2 (d2 - 1) _ _ _ _ _ _ _ _ (by omega) ⟨rfl, rfl, rfl, rfl, k + 1, bs, ws, rfl, by omega, iv, hc⟩
  have hi : i < bs.length := by omega
  simp only [hix, hix3, wpM.1, hb1, ldv_live hkd, c0, hb3, ldv_live hkd3, c3, Option.some.injEq, exists_eq_left']
  refine Wp.jn (fun j => ∀ c : Bool, (c = true → bs[i] = false) → Wp (j vto (i64 w) (Fw.sl n 0 xss.length xss.length) v (i64 (ka : Int)) (i64 (k : Int)) (i64 (i : Int)) (bo c)) n2 h2 Q) ?_ fun j42 hj42 => ?_
  case refine_1 =>
    intro c hcc
    refine Wp.bool.2 ⟨fun hct => ?_, fun _ => hj30 _ _ _ _ _ ⟨e2, hlt, m, hb, qs, hne, hz⟩ hd⟩
    have hf := hcc hct
    refine put i ⟨e2, hlt, m, hb, qs, hne, hz⟩ hi hf (by omega) fun n3 h3 v3 iv3 => hj30 _ _ _ _ _ iv3 ?_
    have := count_mark hi hf
    simp; omega
  refine (ixI (by omega)).2 ?_
  rw [Nat.zero_add, Nat.mul_one, m.load hi]
  simp only [wpS.1, wpS.2.1, wpS.2.2.1, wpS.2.2.2.2]
  exact ⟨fun h3 => hj42 _ fun _ => by simpa using h3, fun _ => hj42 _ (by simp)⟩

theorem shape_wp {n0 : Nat} {P : Pg} {bp : Nat} {vr vs vi vm vf : V} (p : Prg h n0 P bp vr vs vi vm vf) (nm : Nm P) (lm : Lm P) (hF : 100000 < F)
    (f : Fr n h) (hn : n0 ≤ n) (q : ∀ z q n' h', Ev No n h n' h' → Q (.tuple #[ptV q, bo z]) n' h') : Wp (R8_Shape F (pt bp 0)) n h Q := by
  unfold R8_Shape
  refine (Wp.ptrI f).2 ⟨by simp [oneS], ?_⟩
  have e0 := (Ev.start f).new ⟨[i64 0, i64 0, i64 0], .own⟩
  have p0 := p.keep (Kp.ev e0 hn)
  have g0 : (h.set n ⟨[i64 0, i64 0, i64 0], .own⟩).get n = some ⟨[i64 0, i64 0, i64 0], .own⟩ := H.get_set_same _ _ _
  generalize h.set n ⟨[i64 0, i64 0, i64 0], .own⟩ = h0 at e0 p0 g0 ⊢
  have k0 : ∀ {n' h'}, Ev No (n + 1) h0 n' h' → h'.get n = some ⟨[i64 0, i64 0, i64 0], .own⟩ := fun e => by rw [e.no (by omega), g0]
  have give : ∀ {n' h'}, Ev No (n + 1) h0 n' h' → ∀ (z : Bool) (x : Pt), Wp (kStoreN 3 (pt n 0) (ptV x) fun _ => kLoadN 3 (pt n 0) fun v20 => tupK [v20, (bo z)]) n' h' Q := fun {n' h'} e' z x => by
    have le' := e'.le
    have g2 := k0 e'
    have e3 := Ev.more e0 e'
    have := q z x _ _ (e3.set (b := n) ⟨[i64 x.f, i64 x.b, i64 x.i], .own⟩ (by omega) (by omega))
    simpa [wpS, wpM, g2, wsn, ldn, over, oneS, H.get_set_same] using this
  have l5 := lm.funcs
  refine Wp.jn (fun j => ∀ n' h', Ev No (n + 1) h0 n' h' → Wp (j (pt n 0)) n' h' Q) (fun n' h' e' => cl_nowhere e'.f fun n2 h2 e2 => give (Ev.more e' e2) true _) fun j hj => ?_
  refine Wp.loop3 (fun d x0 x1 x2 n' h' => Ev No (n + 1) h0 n' h' ∧ x0 = pt bp 0 ∧ x1 = pt n 0 ∧ ∃ (k : Nat), x2 = i64 (k : Int) ∧ k + d = P.funcs.length) ?_ (d := P.funcs.length) ⟨Ev.start e0.f, rfl, rfl, 0, rfl, by omega⟩ (by omega)
  rintro d _ _ _ n1 h1 rec ⟨e1, rfl, rfl, k, rfl, hk⟩ hr
  have p1 := p0.keep (Kp.ev e1 (by omega))
  simp [wpS, wpM, p1.at_, ldv_ro, p1.funcs.len]
  refine ⟨fun hlt => ?_, fun hge => hj _ _ e1⟩
  obtain ⟨x, hx, _⟩ := Sl.get hlt
  have wk := wrap_succ (show k < 9223372036854775807 by omega)
  have lx := lm.fun_ x (List.mem_of_getElem? hx)
  have nx := nm.funcs x (List.mem_of_getElem? hx)
  have lxb := lx.blocks
  have le1 := e1.le
  obtain ⟨b, o, cs, kd, _, hix, hb1, hkd, ⟨vg, vb, rfl, sr, sb, _⟩, hcs, _, hl1, hd1⟩ := p1.funcs.at hx
  simp [wpM, hix, hb1, ldn_live hkd, hl1, hd1]
  refine Wp.cl (R := fun v n' h' => ∃ xss, Ev No n1 h1 n' h' ∧ LL h' (fun b => n1 ≤ b ∧ b < n') v xss ∧ xss.length = x.blocks.length ∧ (∀ xs ∈ xss, xs.length ≤ 2 ∧ ∀ z ∈ xs, 0 ≤ z ∧ z < (x.blocks.length : Int))) (blocks_wp (x := x) sr sb lx.blocks (fun b hb => (nx.code b hb).2) (by omega) e1.f (by omega) fun n' h' v xss e g hl ha => ⟨xss, e, g, hl, ha⟩) ?_
  rintro v2 n2 h2 ⟨xss, e2, l2, hl, ha⟩
  refine (Wp.buildSliceI e2.f).2 ⟨[i64 0], by simp [fillA, rep, over, oneS], by simp [oneS], ?_⟩
  have e3 := e2.new ⟨[i64 0], .own⟩
  have le2 := e2.le
  have l3 : LL (h2.set n2 ⟨[i64 0], .own⟩) (fun b => n1 ≤ b ∧ b < n2 + 1) v2 xss := Sl.keep l2 (fun b hb => by omega) (fun b hb => by rw [H.get_set_ne _ _ (by omega)]) fun cs xs ⟨u, e4, x⟩ => ⟨u, e4, x.keep (fun b hb => by omega) (fun b hb => by rw [H.get_set_ne _ _ (by omega)]) fun _ _ h => h⟩
  refine Wp.cl (R := fun v n' h' => ∃ bs, Ev No (n2 + 1) (h2.set n2 ⟨[i64 0], .own⟩) n' h' ∧ Sl h' (fun b => n2 + 1 ≤ b ∧ b < n') 1 (fun cs b => cs = [bo b]) v bs ∧ bs.length = xss.length) (reach_wp (fr := [0]) (w := -1) l3 (Sl.ofI (xs := [0]) (H.get_set_same _ _ _) (by decide) (by simp) (by omega)) (fun b hb => hb.2) (fun xs hxs => ⟨by have := (ha xs hxs).1; omega, fun z hz => by have := (ha xs hxs).2 z hz; omega⟩) (by omega) (by simp) hF e3.f fun n' h' v bs e g hb => ⟨bs, e, g, hb⟩) ?_
  rintro v4 n4 h4 ⟨bs, e4, s4, hbs⟩
  have le4 := e4.le
  have e14 := Ev.more e1 (Ev.more e3 e4)
  refine Wp.loop5 (fun d2 x0 x1 x2 x3 x4 n' h' => n' = n4 ∧ h' = h4 ∧ x0 = pt bp 0 ∧ x1 = pt n 0 ∧ x2 = i64 (k : Int) ∧ x3 = v4 ∧ ∃ (i : Nat), x4 = i64 (i : Int) ∧ i + d2 = bs.length) ?_ (d := bs.length) ⟨rfl, rfl, rfl, rfl, rfl, rfl, 0, rfl, by omega⟩ (by omega)
  rintro d2 _ _ _ v4 _ n5 h5 rec2 ⟨rfl, rfl, rfl, rfl, rfl, rfl, i, rfl, hi⟩ hr2
  have wi := wrap_succ (show i < 9223372036854775807 by omega)
  simp [wpS, s4.len, wk]
  refine ⟨fun hlt2 => ?_, fun _ => hr (d - 1) _ _ _ _ _ (by omega) ⟨e14, rfl, rfl, k + 1, by simp, by omega⟩⟩
  obtain ⟨z, hz, _⟩ := Sl.get hlt2
  obtain ⟨b3, o3, cs3, kd3, _, hix3, hb3, hkd3, rfl, hcs3, _⟩ := s4.at hz
  have c3 : cs3[o3]? = _ := hcs3 0 _ rfl
  simp [wpS, wpM, hix3, hb3, ldv_live hkd3, c3, wi, fillA, rep, over, oneS]
  refine ⟨fun _ => ?_, fun _ => hr2 (d2 - 1) _ _ _ _ _ _ _ (by omega) ⟨rfl, rfl, rfl, rfl, rfl, rfl, i + 1, by simp, by omega⟩⟩
  have := give e14 false ⟨k, i, 0⟩
  simpa [wpS, wpM, oneS] using this
end Go.Fn
end
