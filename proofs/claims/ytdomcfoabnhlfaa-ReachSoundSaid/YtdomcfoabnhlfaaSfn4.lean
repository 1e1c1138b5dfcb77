/-
  The framework by which the law is proved: FsR, FnMp, FsS, FsT, FtA, FtB, FtC, FtD, FtE, FpB, FtF.
-/
import Derived.Test.YtdomcfoabnhlfaaSfn3
set_option linter.all false
section
set_option linter.unusedVariables false
namespace Go.Fn
open Go Go.Fw

variable {F n : Nat} {h : H} {Q : Post}

theorem PtOk.nat {P : Pg} {q : Pt} (h : PtOk P q) : ∃ (kf kb ki : Nat) (fn : Fun) (bl : Blo), q = ⟨kf, kb, ki⟩ ∧ P.funcs[kf]? = some fn ∧ fn.blocks[kb]? = some bl ∧ ki ≤ bl.code.length := by
  obtain ⟨f, b, i⟩ := q
  obtain ⟨fn, bl, h1, h2, h3, h4⟩ := h
  obtain ⟨kf, rfl, g1⟩ := getI_some h1
  obtain ⟨kb, rfl, g2⟩ := getI_some h2
  dsimp only at h3 h4
  obtain ⟨ki, rfl⟩ : ∃ k : Nat, i = k := ⟨i.toNat, by omega⟩
  exact ⟨kf, kb, ki, fn, bl, rfl, g1, g2, by omega⟩
theorem nextP_in {P : Pg} {kf kb ki : Nat} {fn : Fun} {bl : Blo} (h1 : P.funcs[kf]? = some fn) (h2 : fn.blocks[kb]? = some bl) (h3 : ki < bl.code.length) : nextP P ⟨kf, kb, ki⟩ = [⟨kf, kb, (ki : Int) + 1⟩] := by
  unfold nextP
  simp only [getI_nat, h1, h2]
  rw [if_neg (by omega), if_pos (by omega)]
theorem nextP_end {P : Pg} {kf kb : Nat} {fn : Fun} {bl : Blo} (h1 : P.funcs[kf]? = some fn) (h2 : fn.blocks[kb]? = some bl) : nextP P ⟨kf, kb, bl.code.length⟩ = ((outsP bl).filter fun t => decide (0 ≤ t ∧ t < (fn.blocks.length : Int))).map fun t => ⟨kf, t, 0⟩ := by
  unfold nextP
  simp only [getI_nat, h1, h2]
  rw [if_neg (by omega), if_neg (by omega)]
theorem outsP_len (bl : Blo) : (outsP bl).length ≤ 2 := by unfold outsP; split <;> (try split) <;> (try split) <;> simp
theorem nextP_len (P : Pg) (q : Pt) : (nextP P q).length ≤ 2 := by
  unfold nextP
  split
  · simp
  split
  · simp
  split
  · simp
  split
  · simp
  rw [List.length_map]
  exact Nat.le_trans (List.length_filter_le _ _) (outsP_len _)

theorem next_wp {n0 : Nat} {P : Pg} {bp : Nat} {vr vs vi vm vf : V} (p : Prg h n0 P bp vr vs vi vm vf) {q : Pt} (ok : PtOk P q) (hl : ∀ x ∈ P.funcs, ∀ b ∈ x.blocks, b.code.length < 100000) (hF : 1000 < F) (f : Fr n h) (hn : n0 ≤ n)
    (k : ∀ n' h' v, Ev No n h n' h' → Gs h' n 3 PtC v (nextP P q) ∨ Sl h' (fun b => n ≤ b ∧ b < n') 3 PtC v (nextP P q) → Q v n' h') : Wp (R8_Next F (pt bp 0) (ptV q)) n h Q := by
  unfold R8_Next
  obtain ⟨kf, kb, ki, fn, bl, rfl, hf, hb, hi⟩ := ok.nat
  have hkf := (List.getElem?_eq_some_iff.1 hf).1
  have hkb := (List.getElem?_eq_some_iff.1 hb).1
  have hcl := hl fn (List.mem_of_getElem? hf) bl (List.mem_of_getElem? hb)
  refine (Wp.boxNI f).2 ⟨by simp [oneS], ?_⟩
  have e1 := (Ev.start f).new ⟨[i64 (kf : Int), i64 (kb : Int), i64 (ki : Int)], .own⟩
  have p1 := p.keep (Kp.ev e1 hn)
  have g1 : (h.set n ⟨[i64 (kf : Int), i64 (kb : Int), i64 (ki : Int)], .own⟩).get n = some ⟨[i64 (kf : Int), i64 (kb : Int), i64 (ki : Int)], .own⟩ := H.get_set_same _ _ _
  simp only [List.toList_toArray]
  generalize h.set n ⟨[i64 (kf : Int), i64 (kb : Int), i64 (ki : Int)], .own⟩ = h1 at e1 p1 g1
  obtain ⟨b1, o1, cs1, kd1, _, hix1, hb1, hk1, ⟨vg, vb, rfl, sr, sb, _⟩, hcs1, _⟩ := p1.funcs.at hf
  have f2 := hcs1 2 _ rfl
  obtain ⟨b2, o2, cs2, kd2, _, hix2, hb2, hk2, ⟨vc, rfl, sc, _⟩, hcs2, _, hl2, hd2⟩ := sb.at hb
  refine Wp.jn (fun j => Wp (j (pt bp 0) (pt n 0) (bo false)) (n + 1) h1 Q) ?_ fun j hj => ?_
  case refine_2 =>
    simpa [wpS.1, wpS.2.1, wpS.2.2.1, wpS.2.2.2.2, wpM, g1, ldv_own, p1.at_, ldv_ro, p1.funcs.len, nnS, show ¬ (P.funcs.length : Int) ≤ (kf : Int) by omega, hix1, hb1, ldv_live hk1, f2, sb.len, show ¬ (fn.blocks.length : Int) ≤ (kb : Int) by omega] using hj
  refine Wp.bool.2 ⟨fun h => absurd h (by decide), fun _ => ?_⟩
  simp [wpS.1, wpS.2.1, wpS.2.2.1, wpS.2.2.2.2, wpM, g1, ldv_own, p1.at_, ldv_ro, hix1, hb1, ldv_live hk1, f2]
  rw [hix2]
  refine Wp.copy e1 hb2 hk2 hl2 hd2 (by simp [oneS, sc.one]) rfl rfl fun h3 e3 g3 k3 => ?_
  have kp3 : Kp n0 h1 h3 := fun b hb => k3 b (by omega)
  have p3 := p1.keep kp3
  have sc3 := sc.keep kp3 (InsC.keep kp3)
  have g31 : h3.get n = some ⟨[i64 (kf : Int), i64 (kb : Int), i64 (ki : Int)], .own⟩ := by rw [k3 _ (by omega), g1]
  refine Wp.jn (fun j => Wp (j (pt bp 0) (pt n 0) (pt (n + 1) 0) (bo false)) (n + 1 + 1) h3 Q) ?_ fun j hj => ?_
  case refine_2 =>
    simpa [wpS.1, wpS.2.1, wpS.2.2.1, wpS.2.2.2.2, wpM, g31, g3, ldv_own, sc3.len, nnS, show ¬ (bl.code.length : Int) < (ki : Int) by omega, show ¬ bl.code.length < ki by omega] using hj
  refine Wp.bool.2 ⟨fun h => absurd h (by decide), fun _ => ?_⟩
  simp [wpS.1, wpS.2.1, wpS.2.2.1, wpS.2.2.2.2, wpM, g31, g3, ldv_own, sc3.len]
  refine ⟨fun hlt => ?_, fun hge => ?_⟩
  · -- within a block
    simp [wpS, wpM, wrap_succ (show ki < 9223372036854775807 by omega), fillA, rep, over, oneS]
    refine (Wp.buildSliceI e3.f).2 ⟨[i64 (kf : Int), i64 (kb : Int), i64 ((ki : Int) + 1)], by simp [fillA, rep, over, oneS], by simp [oneS], ?_⟩
    refine Wp.retI.2 (k _ _ _ (e3.new _) (.inr ⟨by rw [nextP_in hf hb hlt]; simp, .inr ⟨n + 1 + 1, 0, 1, _, .own, by rw [nextP_in hf hb hlt]; rfl, fun _ => ⟨by omega, H.get_set_same _ _ _, by decide, by rw [nextP_in hf hb hlt]; simp⟩, fun i x hx => ?_⟩⟩))
    rw [nextP_in hf hb hlt] at hx
    cases i with
    | zero => simp at hx; subst hx; rfl
    | succ i => simp at hx
  -- at a block's end
  have hki : ki = bl.code.length := by omega
  subst hki
  have fin : ∀ n' h' v to, Ev No n h n' h' → h'.get n = some ⟨[i64 (kf : Int), i64 (kb : Int), i64 (bl.code.length : Int)], .own⟩ → n + 1 + 1 ≤ n' → Sl h' (fun b => n + 1 + 1 ≤ b ∧ b < n') 1 I1 v to → to = outsP bl →
      Wp (lpK (α := V → V → V → V → V → St) (fun _ _ _ _ _ => fail) (fun r45 v46 v47 v48 v49 v50 => kLen v48 fun v51 => kLss v50 v51 fun v52 => onB v52 (jn (α := V → V → V → V → V → St) (fun v54 v55 v56 v57 v58 => kAdd v58 (i64 1) fun v59 => r45 v54 v55 v56 v57 v59) fun j53 => jn (α := V → V → V → V → V → V → St) (fun v61 v62 v63 v64 v65 v66 => onB v66 (kFieldAddr 0 v62 fun v67 => kLoad v67 fun v68 => kIndexAddr 1 v63 v65 fun v69 => kLoad v69 fun v70 => kBuild [(i64 0), (i64 0), (i64 0)] [⟨0, 1, false, v68⟩, ⟨1, 1, false, v70⟩] fun v71 => kBuildSlice 1 (rep 1 [(i64 0), (i64 0), (i64 0)]) [⟨0, 3, true, v71⟩] fun v72 => kApp 3 24 v64 v72 fun v73 => j53 v61 v62 v63 v73 v65) (j53 v61 v62 v63 v64 v65)) fun j60 => kIndexAddr 1 v48 v50 fun v74 => kLoad v74 fun v75 => kGeq v75 (i64 0) fun v76 => onB v76 (kIndexAddr 1 v48 v50 fun v77 => kLoad v77 fun v78 => kNil v46 fun v79 => kFieldAddr 4 v79 fun v80 => kLoad v80 fun v81 => kFieldAddr 0 v47 fun v82 => kLoad v82 fun v83 => kIndexAddr 3 v81 v83 fun v84 => kFieldAddr 2 v84 fun v85 => kLoad v85 fun v86 => kLen v86 fun v87 => kLss v78 v87 fun v88 => j60 v46 v47 v48 v49 v50 v88) (j60 v46 v47 v48 v49 v50 (bo false))) (ret v49)) F (pt bp 0) (pt n 0) v nsl (i64 0)) n' h' Q := by
    intro n' h' v to e' g' hlt' sv hto
    have lto : to.length ≤ 2 := by rw [hto]; exact outsP_len bl
    refine Wp.loop5 (fun d x0 x1 x2 x3 x4 n2 h2 => Ev No n' h' n2 h2 ∧ x0 = pt bp 0 ∧ x1 = pt n 0 ∧ x2 = v ∧ ∃ (i : Nat), x4 = i64 (i : Int) ∧ i + d = to.length ∧ Gs h2 n' 3 PtC x3 (((to.take i).filter fun t => decide (0 ≤ t ∧ t < (fn.blocks.length : Int))).map fun t => ⟨kf, t, 0⟩)) ?_ (d := to.length) ⟨Ev.start e'.f, rfl, rfl, rfl, 0, rfl, by omega, Gs.nil⟩ (by omega)
    rintro d _ _ v l _ n2 h2 rec ⟨e2, rfl, rfl, rfl, i, rfl, hid, gl⟩ hr
    have le2 := e2.le
    have sv2 := sv.keep (h' := h2) (B' := fun b => n + 1 + 1 ≤ b ∧ b < n') (fun _ h => h) (fun b hb => e2.no hb.2) fun _ _ h => h
    have g2 : h2.get n = some ⟨[i64 (kf : Int), i64 (kb : Int), i64 (bl.code.length : Int)], .own⟩ := by rw [e2.no (by omega), g']
    have p2 := p.keep (Kp.ev (Ev.more e' e2) hn)
    have wi := wrap_succ (show i < 9223372036854775807 by omega)
    simp only [wpS.1, wpS.2.1, wpS.2.2.1, wpS.2.2.2.2, sv2.len, decide_eq_true_eq, decide_eq_false_iff_not]
    refine ⟨fun hlt => ?_, fun hge => k _ _ _ (Ev.more e' e2) (.inl ?_)⟩
    case refine_2 =>
      have e : List.take i to = to := List.take_of_length_le (by omega)
      rw [e, hto, ← nextP_end hf hb] at gl
      rcases gl with gl | ⟨b, cs, q1, q2, q3, q4⟩
      · exact .inl gl
      · exact .inr ⟨b, cs, q1, q2, by have := e'.le; omega, q4⟩
    obtain ⟨t, ht, hd⟩ := Sl.get (show i < to.length by omega)
    obtain ⟨b1, o1, cs1, kd1, _, hix1, hb1, hk1, ⟨vg, vb, rfl, sr, sb, _⟩, hcs1, _⟩ := p2.funcs.at hf
    have f2 := hcs1 2 _ rfl
    obtain ⟨b5, o5, cs5, kd5, _, hix5, hb5, hk5, rfl, hcs5, _⟩ := sv2.at ht
    have c5 : cs5[o5]? = _ := hcs5 0 _ rfl
    have tk : to.take (i + 1) = to.take i ++ [t] := by rw [List.take_add_one, ht]; rfl
    refine Wp.jn (fun j => ∀ n3 h3 l', Ev No n' h' n3 h3 → Gs h3 n' 3 PtC l' (((to.take (i + 1)).filter fun t => decide (0 ≤ t ∧ t < (fn.blocks.length : Int))).map fun t => ⟨kf, t, 0⟩) → Wp (j (pt bp 0) (pt n 0) v l' (i64 (i : Int))) n3 h3 Q) ?_ fun j53 hj53 => ?_
    case refine_1 =>
      intro n3 h3 l' e3 g3
      simp only [wpS, wi]
      exact hr (d - 1) _ _ _ _ _ _ _ (by omega) ⟨e3, rfl, rfl, rfl, i + 1, rfl, by omega, g3⟩
    refine Wp.jn (fun j => ∀ c : Bool, (c = true ↔ 0 ≤ t ∧ t < (fn.blocks.length : Int)) → Wp (j (pt bp 0) (pt n 0) v l (i64 (i : Int)) (bo c)) n2 h2 Q) ?_ fun j60 hj60 => ?_
    case refine_1 =>
      intro c hc
      refine Wp.bool.2 ⟨fun hct => ?_, fun hcf => hj53 _ _ _ e2 ?_⟩
      · have hct := hc.1 hct
        simp [wpS.1, wpS.2.1, wpS.2.2.1, wpS.2.2.2.2, wpM, g2, ldv_own, hix5, hb5, ldv_live hk5, c5, fillA, rep, over, oneS]
        refine Gs.push (s := 3) (x := (⟨kf, t, 0⟩ : Pt)) (E := PtC) (es := [i64 (kf : Int), i64 t, i64 0]) e2 gl (by simp [fillA, rep, over, oneS]) rfl (by decide) (by simp [oneS]) rfl ⟨by
          have := List.length_filter_le (fun t => decide (0 ≤ t ∧ t < (fn.blocks.length : Int))) (to.take i)
          have h9 : (to.take i).length ≤ 2 := by rw [List.length_take]; omega
          rw [List.length_map]; omega, by decide⟩ fun h3 v3 e3 g3 _ _ _ => hj53 _ _ _ e3 ?_
        rw [tk, List.filter_append, List.map_append]
        simpa [hct] using g3
      · have : ¬ (0 ≤ t ∧ t < (fn.blocks.length : Int)) := fun h => by have := hc.2 h; rw [hcf] at this; cases this
        rw [tk, List.filter_append, List.map_append]
        simpa [this] using gl
    simp [wpS.1, wpS.2.1, wpS.2.2.1, wpS.2.2.2.2, wpM, g2, ldv_own, hix5, hb5, ldv_live hk5, c5, p2.at_, ldv_ro, hix1, hb1, ldv_live hk1, f2, sb.len]
    exact ⟨fun h1 => hj60 _ (by simp [h1]), fun h1 => hj60 _ (by simp; omega)⟩
  have fin := fun n' h' v to (e : Ev No (n + 1 + 1) h3 n' h') sv hto => fin n' h' v to (Ev.more e3 e) (by rw [e.no (by omega), g31]) e.le sv hto
  refine Wp.jn (fun j => ∀ n' h' v to, Ev No (n + 1 + 1) h3 n' h' → Sl h' (fun b => n + 1 + 1 ≤ b ∧ b < n') 1 I1 v to → to = outsP bl → Wp (j (pt bp 0) (pt n 0) v) n' h' Q) (fun n' h' v to e sv hto => fin n' h' v to e sv hto) fun j39 hj39 => ?_
  clear fin
  by_cases f1 : bl.fin = 1
  · simp [wpS, wpM, g3, ldv_own, f1, Wp.buildSliceI, e3.f, fillA, rep, over, oneS]
    exact hj39 _ _ _ [bl.to] (Ev.start e3.f |>.new _) (Sl.ofI (xs := [bl.to]) (H.get_set_same _ _ _) (by decide) (by simp) (by omega)) (by simp [outsP, f1])
  by_cases f2' : bl.fin = 2
  · by_cases h5 : bl.els = bl.to
    · simp [wpS, wpM, g3, ldv_own, f2', H.get_set_ne, Wp.buildSliceI, e3.f, fillA, rep, over, oneS, H.get_set, h5]
      exact hj39 _ _ _ [bl.to] (Ev.start e3.f |>.new _) (Sl.ofI (xs := [bl.to]) (H.get_set_same _ _ _) (by decide) (by simp) (by omega)) (by simp [outsP, f2', h5])
    · simp [wpS, wpM, g3, ldv_own, f2', Wp.buildSliceI, e3.f, fillA, rep, over, oneS, H.get_set, h5]
      have e4 := (Ev.start e3.f).new ⟨[i64 bl.to], .own⟩
      refine Qs.push (s := 1) (n0 := n + 1 + 1) (x := bl.els) (xs := [bl.to]) (E := I1) (es := [i64 bl.els]) e4 (Qs.lit (xs := [bl.to]) (H.get_set_same _ _ _) (Nat.le_refl _) rfl rfl (by simp [oneS]) (by decide) (fun i x hx => by cases i <;> simp_all)) (by simp [fillA, rep, over, oneS]) rfl (by decide) (by simp [oneS]) rfl ⟨by simp, by decide⟩ fun h' v' e' g' _ _ => ?_
      exact hj39 _ _ _ _ e' ((g'.sl (by simp)).keep (fun b hb => g'.lt e'.f hb) (fun _ _ => rfl) fun _ _ h => h) (by simp [outsP, f2', h5])
  · simp [wpS, wpM, g3, ldv_own, f1, f2']
    exact hj39 _ _ _ [] (Ev.start e3.f) ⟨by simp, .inl ⟨rfl, rfl⟩⟩ (by simp [outsP, f1, f2'])
end Go.Fn
end
section
set_option linter.unusedVariables false
namespace Go.Fn
open Go Go.Fw

variable {n : Nat} {h : H} {Q : Post} {K : V → St}

def FitP (q : Pt) : Prop := Fit q.f ∧ Fit q.b ∧ Fit q.i
theorem wf64_i {z : Int} (h : Fit z) : wf64 (i64 z) = true := by
  show (decide (IntKind.i64.min ≤ z) && decide (z ≤ IntKind.i64.max)) = true
  unfold Fit at h
  rw [Bool.and_eq_true]
  exact ⟨decide_eq_true (by show (-9223372036854775808 : Int) ≤ z; omega), decide_eq_true (by show z ≤ (9223372036854775807 : Int); omega)⟩
theorem ikey_pt {q : Pt} (h : FitP q) : ikey 3 (ptV q) = true := by
  show (decide (3 = 3) && [i64 q.f, i64 q.b, i64 q.i].all wf64) = true
  simp [wf64_i h.1, wf64_i h.2.1, wf64_i h.2.2]
theorem keq_pt (p q : Pt) : keq (ptV p) (ptV q) = decide (p = q) := by
  show (decide (p.f = q.f) && (decide (p.b = q.b) && (decide (p.i = q.i) && true))) = _
  obtain ⟨a, b, c⟩ := p
  obtain ⟨a', b', c'⟩ := q
  rw [Bool.eq_iff_iff]
  simp
abbrev ents (ts : List (Pt × Nat)) : List (V × V × Nat) := ts.map fun x => (ptV x.1, bo true, x.2)
/-- A set of points, in a map. -/
def Ms (h : H) (b : Nat) (S : List Pt) : Prop := ∃ c ts, h.get b = some (mapB 3 c (ents ts)) ∧ ts.map (·.1) = S
theorem Ms.keep {h' : H} {b : Nat} {S : List Pt} (m : Ms h b S) (k : h'.get b = h.get b) : Ms h' b S := by
  obtain ⟨c, ts, g, e⟩ := m
  exact ⟨c, ts, by rw [k]; exact g, e⟩
theorem entFind_pt {q : Pt} : ∀ (ts : List (Pt × Nat)), (entFind (ptV q) (flatE (ents ts)) = none ∧ q ∉ ts.map (·.1)) ∨ ((∃ t, entFind (ptV q) (flatE (ents ts)) = some (bo true, t)) ∧ q ∈ ts.map (·.1))
  | [] => .inl ⟨rfl, by simp⟩
  | (x, t) :: r => by
    have e : entFind (ptV q) (flatE (ents ((x, t) :: r))) = if keq (ptV q) (ptV x) = true then some (bo true, .int .i64 t) else entFind (ptV q) (flatE (ents r)) := by
      show entFind _ (ptV x :: bo true :: .int .i64 (t : Int) :: flatE (ents r)) = _
      rw [entFind]
    rw [e, keq_pt]
    by_cases hx : q = x
    · rw [if_pos (by simpa using hx)]
      exact .inr ⟨⟨_, rfl⟩, by simp [hx]⟩
    · rw [if_neg (by simpa using hx)]
      rcases entFind_pt r with ⟨h1, h2⟩ | ⟨h1, h2⟩
      · refine .inl ⟨h1, ?_⟩
        rw [List.map_cons, List.mem_cons]
        rintro (h | h)
        · exact hx h
        · exact h2 h
      · exact .inr ⟨h1, List.mem_cons_of_mem _ h2⟩
theorem entPut_pt {q : Pt} {c : Nat} : ∀ (ts : List (Pt × Nat)), q ∉ ts.map (·.1) → entPut (ptV q) (bo true) c (flatE (ents ts)) = flatE (ents (ts ++ [(q, c)]))
  | [], _ => rfl
  | (x, t) :: r, h => by
    have hx : ¬ q = x := by
      rintro rfl
      exact h (by simp)
    show entPut _ _ _ (ptV x :: bo true :: .int .i64 (t : Int) :: flatE (ents r)) = _
    rw [entPut, keq_pt, if_neg (by simpa using hx), entPut_pt r (fun h' => h (List.mem_cons_of_mem _ h'))]
    rfl

theorem Wp.mapNew (f : Fr n h) (k : ∀ h', Ev No n h (n + 1) h' → Ms h' n [] → Wp (K (.map (some n))) (n + 1) h' Q) : Wp (kMakeMap 3 K) n h Q := by
  have e0 := (Ev.start f).new ⟨[.nilFunc, .int .u64 3, .int .u64 0], .dead⟩
  have := k _ e0 ⟨0, [], H.get_set_same _ _ _, rfl⟩
  refine Wp.of ?_ this
  show (bnd (bnd (new [.nilFunc, .int .u64 3, .int .u64 0] .dead) fun b => Fw.ret (.map (some b))) K).run n h = _
  rw [bnd_assoc, run_new f (by rfl)]
  rfl
theorem run_mpGet {b : Nat} {cs : List V} {K : List V → St} (g : h.get b = some ⟨.nilFunc :: cs, .dead⟩) : (bnd (mpGet b) K).run n h = (K cs).run n h := by
  refine run_bnd ?_
  show mpGetF b n h = _
  unfold mpGetF
  rw [g]
theorem run_mpSet {b : Nat} {cs vs : List V} {K : Unit → St} (g : h.get b = some ⟨.nilFunc :: cs, .dead⟩) : (bnd (mpSet b vs) K).run n h = (K ()).run n (h.set b ⟨.nilFunc :: vs, .dead⟩) := by
  refine run_bnd ?_
  show mpSetF b vs n h = _
  unfold mpSetF
  rw [g]
theorem mapEnts_pt {c : Nat} {q : Pt} {es : List V} (hq : FitP q) : mapEnts 3 (ptV q) (.int .u64 ((3 : Nat) : Int) :: .int .u64 c :: es) = some (c, es) := by
  show (if (3 : Int) = ((3 : Nat) : Int) ∧ ikey 3 (ptV q) = true then some (c, es) else none) = _
  rw [if_pos ⟨rfl, ikey_pt hq⟩]
theorem Ms.look {b : Nat} {S : List Pt} (m : Ms h b S) {q : Pt} (hq : FitP q) : Wp (kLookup 3 (bo false) false (.map (some b)) (ptV q) K) n h Q ↔ Wp (K (bo (decide (q ∈ S)))) n h Q := by
  obtain ⟨c, ts, g, rfl⟩ := m
  have e : (kLookup 3 (bo false) false (.map (some b)) (ptV q) K).run n h = (K (bo (decide (q ∈ ts.map (·.1))))).run n h := by
    show (bnd (bnd (mpGet b) fun cs => _) K).run n h = _
    rw [bnd_assoc, run_mpGet g, mapEnts_pt hq]
    dsimp only
    rcases entFind_pt (q := q) ts with ⟨h1, h2⟩ | ⟨⟨t, h1⟩, h2⟩
    · rw [h1, decide_eq_false h2]; rfl
    · rw [h1, decide_eq_true h2]; rfl
  unfold Wp
  rw [e]
theorem Ms.put {b : Nat} {S : List Pt} (m : Ms h b S) {q : Pt} (hq : FitP q) (hn : q ∉ S) (k : ∀ B, Ms (h.set b B) b (S ++ [q]) → Wp (K undef) n (h.set b B) Q) : Wp (kInsert 3 (.map (some b)) (ptV q) (bo true) K) n h Q := by
  obtain ⟨c, ts, g, rfl⟩ := m
  have := k (mapB 3 (c + 1) (ents (ts ++ [(q, c)]))) ⟨c + 1, ts ++ [(q, c)], H.get_set_same _ _ _, by simp⟩
  refine Wp.of ?_ this
  show (bnd (bnd (mpGet b) fun cs => _) K).run n h = _
  rw [bnd_assoc, run_mpGet g, mapEnts_pt hq]
  dsimp only
  rcases entFind_pt (q := q) ts with ⟨h1, h2⟩ | ⟨⟨t, h1⟩, h2⟩
  · rw [if_pos (show one (bo true) = true from rfl), h1]
    dsimp only
    rw [bnd_assoc, run_mpSet g, entPut_pt _ hn]
    rfl
  · exact absurd h2 hn
end Go.Fn
end
section
set_option linter.unusedVariables false
namespace Go.Fn
open Go Go.Fw

variable {F n : Nat} {h : H} {Q : Post}

def DefAt (P : Pg) (q : Pt) (r : Int) : Prop := ∃ c, codeP P q = some c ∧ defP c = some r
/-- What is come to from a function's beginning by a way that does not define a register. -/
inductive Fwd (P : Pg) (r f : Int) : Pt → Prop
  | start : Fwd P r f ⟨f, 0, 0⟩
  | step {q q' : Pt} : Fwd P r f q → ¬ DefAt P q r → q' ∈ nextP P q → Fwd P r f q'

theorem countP_less {α : Type} {p q : α → Bool} (h : ∀ x, q x = true → p x = true) : ∀ {l : List α} {x : α}, x ∈ l → p x = true → q x = false → l.countP q < l.countP p
  | y :: l, x, hx, h1, h2 => by
    have le := List.countP_mono_left (l := l) (p := q) (q := p) fun z _ => h z
    rw [List.countP_cons, List.countP_cons]
    rcases List.mem_cons.1 hx with rfl | hx
    · rw [h1, h2]; simp; omega
    · have := countP_less h hx h1 h2
      by_cases hy : q y = true
      · rw [if_pos hy, if_pos (h y hy)]; omega
      · rw [if_neg hy]; split <;> omega
/-- How many points are not yet seen. -/
def unP (P : Pg) (S : List Pt) : Nat := (pointsP P).countP fun q => !decide (q ∈ S)
theorem unP_push {P : Pg} {S : List Pt} {q : Pt} (h1 : q ∈ pointsP P) (h2 : q ∉ S) : unP P (S ++ [q]) < unP P S := by
  unfold unP
  refine countP_less (fun x hx => ?_) h1 (by simpa using h2) (by simp)
  simp only [Bool.not_eq_eq_eq_not, Bool.not_true, decide_eq_false_iff_not, List.mem_append, List.mem_singleton, not_or] at hx ⊢
  exact hx.1
theorem PtOk.mem {P : Pg} {q : Pt} (h : PtOk P q) : q ∈ pointsP P := by
  obtain ⟨a, h, _⟩ := h.num
  exact List.mem_of_getElem? h
theorem PtOk.fit {P : Pg} (lm : Lm P) {q : Pt} (h : PtOk P q) : FitP q := by
  obtain ⟨kf, kb, ki, fn, bl, rfl, h1, h2, h3⟩ := h.nat
  have l1 := lm.funcs
  have lx := lm.fun_ fn (List.mem_of_getElem? h1)
  have l2 := lx.blocks
  have l3 := (lx.each bl (List.mem_of_getElem? h2)).code
  have g1 := (List.getElem?_eq_some_iff.1 h1).1
  have g2 := (List.getElem?_eq_some_iff.1 h2).1
  exact ⟨by unfold Fit; dsimp only; omega, by unfold Fit; dsimp only; omega, by unfold Fit; dsimp only; omega⟩
theorem PtOk.blo {P : Pg} {q : Pt} (h : PtOk P q) : ∃ bl, bloP P q.f q.b = some bl := by
  obtain ⟨fn, bl, h1, h2, _⟩ := h
  exact ⟨bl, by unfold bloP; rw [h1]; exact h2⟩
theorem cl_next {n0 : Nat} {P : Pg} {bp : Nat} {vr vs vi vm vf : V} {K : V → St} (p : Prg h n0 P bp vr vs vi vm vf) (lm : Lm P) {q : Pt} (ok : PtOk P q) (hF : 1000 < F) (f : Fr n h) (hn : n0 ≤ n)
    (k : ∀ n' h' v, Ev No n h n' h' → Sl h' (fun b => n ≤ b ∧ b < n') 3 PtC v (nextP P q) → Wp (K v) n' h' Q) : Wp (cl (R8_Next F (pt bp 0) (ptV q)) K) n h Q := by
  refine Wp.cl (R := fun v n' h' => Ev No n h n' h' ∧ Sl h' (fun b => n ≤ b ∧ b < n') 3 PtC v (nextP P q)) (next_wp p ok (fun x hx b hb => by have := ((lm.fun_ x hx).each b hb).code; omega) hF f hn fun n' h' v e s => ⟨e, ?_⟩) ?_
  · rcases s with s | s
    · have := nextP_len P q
      exact (s.sl (by omega)).keep (fun b hb => s.lt e.f hb) (fun _ _ => rfl) fun _ _ h => h
    · exact s
  · rintro v n' h' ⟨e, s⟩
    exact k _ _ _ e s
theorem PtC.all {cs : List V} {q : Pt} (h : PtC cs q) : cs = [i64 q.f, i64 q.b, i64 q.i] := h

theorem free_wp {n0 : Nat} {P : Pg} {bp : Nat} {vr vs vi vm vf : V} (p : Prg h n0 P bp vr vs vi vm vf) (nm : Nm P) (lm : Lm P) {kf : Nat} {fn : Fun} {s : Sg} {r : Int} {at_ : Pt} (hf : P.funcs[kf]? = some fn) (hs : getI P.sigs fn.sig = some s) (hF : 100000 < F) (f : Fr n h) (hn : n0 ≤ n)
    (q : ∀ z n' h', Ev No n h n' h' → (z = false → r < (s.params.length : Int) ∨ ∀ x, Fwd P r kf x → ¬ (x.b = at_.b ∧ x.i = at_.i)) → Q (bo z) n' h') : Wp (R8_Free F (pt bp 0) (i64 (kf : Int)) (i64 r) (ptV at_)) n h Q := by
  unfold R8_Free
  obtain ⟨af, ab, ai⟩ := at_
  refine (Wp.boxNI f).2 ⟨by simp [oneS], ?_⟩
  have e1 := (Ev.start f).new ⟨[i64 af, i64 ab, i64 ai], .own⟩
  have p1 := p.keep (Kp.ev e1 hn)
  have g1 : (h.set n ⟨[i64 af, i64 ab, i64 ai], .own⟩).get n = some ⟨[i64 af, i64 ab, i64 ai], .own⟩ := H.get_set_same _ _ _
  simp only [List.toList_toArray]
  generalize h.set n ⟨[i64 af, i64 ab, i64 ai], .own⟩ = h1 at e1 p1 g1
  obtain ⟨b1, o1, cs1, kd1, _, hix1, hb1, hk1, ⟨vg, vb, rfl, sr, sb, _⟩, hcs1, _⟩ := p1.funcs.at hf
  have c1 : cs1[o1]? = _ := hcs1 0 _ rfl
  obtain ⟨b2, o2, cs2, kd2, _, hix2, hb2, hk2, ⟨vp, rfl, sp, _⟩, hcs2, _⟩ := p1.sigs.atI hs
  have c2 : cs2[o2]? = _ := hcs2 0 _ rfl
  have lx := lm.fun_ fn (List.mem_of_getElem? hf)
  have okstart : PtOk P ⟨kf, 0, 0⟩ := by
    have h0 := lx.some_
    obtain ⟨bl, hbl, _⟩ := Sl.get (show 0 < fn.blocks.length by omega)
    exact ⟨fn, bl, by rw [getI_nat]; exact hf, by simpa [getI_nat] using (getI_nat fn.blocks 0).trans hbl, by simp, by simp⟩
  simp [wpS.1, wpS.2.1, wpS.2.2.1, wpS.2.2.2.2, wpM, p1.at_, ldv_ro, hix1, hb1, ldv_live hk1, c1, hix2, hb2, ldv_live hk2, c2, sp.len]
  refine ⟨fun hlt => q _ _ _ e1 fun _ => .inl hlt, fun hge => ?_⟩
  refine Wp.mapNew e1.f fun h2 e2 m2 => ?_
  have g2 : h2.get n = some ⟨[i64 af, i64 ab, i64 ai], .own⟩ := by rw [e2.no (by omega), g1]
  have e12 := Ev.more e1 e2
  refine Wp.buildI.2 ⟨[i64 (kf : Int), i64 0, i64 0], by simp [fillA, over, oneS], ?_⟩
  refine m2.put (q := ⟨kf, 0, 0⟩) (okstart.fit lm) (by simp) fun B m3 => ?_
  refine Wp.buildI.2 ⟨[i64 (kf : Int), i64 0, i64 0], by simp [fillA, over, oneS], ?_⟩
  have e3 := e12.set (b := n + 1) B (by omega) (by omega)
  have g3 : (h2.set (n + 1) B).get n = some ⟨[i64 af, i64 ab, i64 ai], .own⟩ := by rw [H.get_set_ne _ _ (by omega), g2]
  refine (Wp.buildSliceI e3.f).2 ⟨[i64 (kf : Int), i64 0, i64 0], by simp [fillA, over, rep, oneS], by simp [oneS], ?_⟩
  have e4 := e3.new ⟨[i64 (kf : Int), i64 0, i64 0], .own⟩
  have m4 := m3.keep (h' := (h2.set (n + 1) B).set (n + 1 + 1) ⟨[i64 (kf : Int), i64 0, i64 0], .own⟩) (H.get_set_ne _ _ (by omega))
  have g4 : ((h2.set (n + 1) B).set (n + 1 + 1) ⟨[i64 (kf : Int), i64 0, i64 0], .own⟩).get n = some ⟨[i64 af, i64 ab, i64 ai], .own⟩ := by rw [H.get_set_ne _ _ (by omega), g3]
  have q4 : Qs ((h2.set (n + 1) B).set (n + 1 + 1) ⟨[i64 (kf : Int), i64 0, i64 0], .own⟩) n 3 PtC (sl (n + 1 + 1) 0 1 1) [⟨kf, 0, 0⟩] :=
    Qs.lit (xs := [(⟨kf, 0, 0⟩ : Pt)]) (H.get_set_same _ _ _) (by omega) rfl rfl (by simp [oneS]) (by decide) fun i x hx => by
      cases i with
      | zero => simp at hx; subst hx; rfl
      | succ i => simp at hx
  generalize (h2.set (n + 1) B).set (n + 1 + 1) ⟨[i64 (kf : Int), i64 0, i64 0], .own⟩ = h4 at e4 m4 g4 q4
  -- what stays
  let Iv := fun (S ws : List Pt) (v : V) (n' : Nat) (h' : H) => Ev No n h n' h' ∧ n + 1 < n' ∧ h'.get n = some ⟨[i64 af, i64 ab, i64 ai], .own⟩ ∧ Ms h' (n + 1) S ∧ Qs h' n 3 PtC v ws ∧ ¬ InB v n ∧ ¬ InB v (n + 1) ∧ (∀ x ∈ ws, x ∈ S) ∧ (∀ x ∈ S, PtOk P x ∧ x.f = (kf : Int)) ∧ (⟨kf, 0, 0⟩ : Pt) ∈ S
  let Done := fun (S : List Pt) (x : Pt) => ¬ (x.b = ab ∧ x.i = ai) ∧ (DefAt P x r ∨ ∀ y ∈ nextP P x, y ∈ S)
  have lps := lm.points
  have hun : ∀ S, unP P S ≤ (pointsP P).length := fun S => List.countP_le_length
  refine Wp.jn (fun j => ∀ S n' h', Ev No n h n' h' → (⟨kf, 0, 0⟩ : Pt) ∈ S → (∀ x ∈ S, Done S x) → Wp j n' h' Q) ?_ fun j hj => ?_
  case refine_1 =>
    intro S n' h' e' hst hdone
    refine Wp.retI.2 (q _ _ _ e' fun _ => .inr ?_)
    have all : ∀ x, Fwd P r kf x → x ∈ S := fun x hx => by
      induction hx with
      | start => exact hst
      | step _ hnd hy ih =>
        rcases (hdone _ ih).2 with h | h
        · exact absurd h hnd
        · exact h _ hy
    exact fun x hx => (hdone x (all x hx)).1
  refine Wp.loop5 (fun d x0 x1 x2 x3 x4 n' h' => x0 = pt bp 0 ∧ x1 = i64 r ∧ x2 = pt n 0 ∧ x3 = .map (some (n + 1)) ∧ ∃ (S ws : List Pt), Iv S ws x4 n' h' ∧ (∀ x ∈ S, x ∈ ws ∨ Done S x) ∧ unP P S + ws.length = d ∧ d ≤ 5000) ?_ (d := unP P [⟨kf, 0, 0⟩] + 1) ⟨rfl, rfl, rfl, rfl, [⟨kf, 0, 0⟩], [⟨kf, 0, 0⟩], ⟨e4, by omega, g4, m4, q4, (fun ⟨_, _, _, q⟩ => by cases q), (fun ⟨_, _, _, q⟩ => by cases q), by simp, by simp [okstart], by simp⟩, by simp, by simp, by have := hun [⟨kf, 0, 0⟩]; omega⟩ (by have := hun [⟨kf, 0, 0⟩]; omega)
  clear q4 g4 m4 e4 g3 e3 m3 g2 e12 e2 m2
  rintro d _ _ _ _ v n1 h1' rec ⟨rfl, rfl, rfl, rfl, S, ws, iv, hdone, hd, hd2⟩ hr
  obtain ⟨e1', hlt, g, m, qs, hne, hne2, hws, hok, hst⟩ := iv
  have sl1 := qs.sl (by omega)
  simp only [wpS.1, wpS.2.1, wpS.2.2.1, wpS.2.2.2.2, sl1.len, decide_eq_true_eq, decide_eq_false_iff_not]
  refine ⟨fun hpos => ?_, fun h0 => hj S _ _ e1' hst fun x hx => ?_⟩
  case refine_2 =>
    rcases hdone x hx with h | h
    · cases ws with
      | nil => cases h
      | cons a ws => exact absurd (show (0 : Int) < ((a :: ws).length : Int) by simp) h0
    · exact h
  cases ws with
  | nil => simp at hpos
  | cons x ws =>
  obtain ⟨bq, oq, csq, kdq, _, hixq, hbq, hkq, hpq, hcsq, _, hlq, hdq⟩ := sl1.at (i := 0) rfl
  have hpq := hpq.all
  subst hpq
  obtain ⟨v', hv', qs', hin⟩ := qs.tail
  simp only [Int.natCast_zero] at hixq
  simp only [List.length_cons] at hd
  have okx := hok x (hws x List.mem_cons_self)
  rw [hixq]
  refine Wp.copy (s := 3) (es := [i64 x.f, i64 x.b, i64 x.i]) e1' hbq hkq hlq hdq (by simp [oneS]) rfl rfl fun h5 e5 g5 k5 => ?_
  have m5 : Ms h5 (n + 1) S := m.keep (k5 _ hlt)
  have g5n : h5.get n = some ⟨[i64 af, i64 ab, i64 ai], .own⟩ := by rw [k5 _ (by omega), g]
  have qs5 : Qs h5 n 3 PtC v' ws := qs'.keep (fun c hc => k5 _ (qs'.lt e1'.f hc).2) fun _ _ h => h
  have qv : ∀ c, InB v' c → c < n1 := fun c hc => (qs'.lt e1'.f hc).2
  have hne' : ¬ InB v' n := fun q => hne (hin _ q)
  have hne2' : ¬ InB v' (n + 1) := fun q => hne2 (hin _ q)
  refine (hv' _ _ _ _).2 ?_
  have le5 : n1 + 1 ≤ n1 + 1 := Nat.le_refl _
  have le1 := e1'.le
  have p5 := p.keep (Kp.ev e5 hn)
  have iv5 : Iv S ws v' (n1 + 1) h5 := ⟨e5, by omega, g5n, m5, qs5, hne', hne2', fun y hy => hws y (List.mem_cons_of_mem _ hy), hok, hst⟩
  have xS := hws x List.mem_cons_self
  have hdone5 : ∀ y ∈ S, y ∈ ws ∨ Done S y ∨ y = x := fun y hy => by
    rcases hdone y hy with h | h
    · rcases List.mem_cons.1 h with h | h
      · exact .inr (.inr h)
      · exact .inl h
    · exact .inr (.inl h)
  -- what a step of whatever kind keeps
  have ivEv : ∀ {S ws v n' h' n'' h''}, Iv S ws v n' h' → Ev No n' h' n'' h'' → Iv S ws v n'' h'' := by
    rintro S ws v n' h' n'' h'' ⟨a1, a2, a3, a4, a5, a6, a7, a8⟩ e
    have le := e.le
    exact ⟨Ev.more a1 e, by omega, by rw [e.no (by omega), a3], a4.keep (e.no a2), a5.keep (fun c hc => e.no (a5.lt a1.f hc).2) fun _ _ h => h, a6, a7, a8⟩
  refine Wp.jn (fun j => ∀ c : Bool, (c = true ↔ x.b = ab ∧ x.i = ai) → Wp (j (pt bp 0) (i64 r) (pt n 0) (.map (some (n + 1))) v' (pt n1 0) (bo c)) (n1 + 1) h5 Q) ?_ fun j34 hj34 => ?_
  case refine_2 =>
    simp [wpS.1, wpS.2.1, wpS.2.2.1, wpS.2.2.2.2, wpM, g5, g5n, ldv_own]
    exact ⟨fun h1 => hj34 _ (by simp [h1]), fun h1 => hj34 _ (by simp [h1])⟩
  intro c hc
  refine Wp.bool.2 ⟨fun _ => Wp.retI.2 (q true _ _ e5 (by simp)), fun hcf => ?_⟩
  have hat : ¬ (x.b = ab ∧ x.i = ai) := fun h => by have := hc.2 h; rw [hcf] at this; cases this
  simp only [wpM.2.2.1, g5, ldn]
  refine ⟨by simp, ?_⟩
  refine cl_code p5 (q := x) e5.f (by omega) fun n6 h6 vcode e6 hcode => ?_
  have e56 := Ev.more e5 e6
  have le6 := e6.le
  obtain ⟨c0, wc, okc, rfl, hwc, hok1, hok2⟩ : ∃ (c0 : Ins) (wc : V) (okc : Bool), vcode = .tuple #[insV c0 wc, bo okc] ∧ one wc = true ∧ (okc = true → codeP P x = some c0) ∧ (okc = false → codeP P x = none) := by
    rcases hcode with ⟨h1, rfl⟩ | ⟨c0, wc, h1, sa, _, rfl⟩
    · exact ⟨⟨0, 0, 0, 0, 0, []⟩, nsl, false, rfl, rfl, by simp, fun _ => h1⟩
    · exact ⟨c0, wc, true, rfl, sa.one, fun _ => h1, by simp⟩
  simp only [Wp.extractI, List.getElem?_cons_zero, List.getElem?_cons_succ, Option.some.injEq, exists_eq_left']
  refine ⟨by simp [isNF], by simp [isNF], Wp.put (cs := [i64 c0.op, i64 c0.dst, i64 c0.a, i64 c0.b, i64 c0.n, wc]) e6.f (by simp [oneS]) (by simp [oneS, hwc]) rfl rfl ?_⟩
  have e7 := (e6.new ⟨[i64 0, i64 0, i64 0, i64 0, i64 0, nsl], .own⟩).set (b := n6) ⟨[i64 c0.op, i64 c0.dst, i64 c0.a, i64 c0.b, i64 c0.n, wc], .own⟩ (by omega) (by omega)
  have g7 : ((h6.set n6 ⟨[i64 0, i64 0, i64 0, i64 0, i64 0, nsl], .own⟩).set n6 ⟨[i64 c0.op, i64 c0.dst, i64 c0.a, i64 c0.b, i64 c0.n, wc], .own⟩).get n6 = some ⟨[i64 c0.op, i64 c0.dst, i64 c0.a, i64 c0.b, i64 c0.n, wc], .own⟩ := H.get_set_same _ _ _
  generalize (h6.set n6 ⟨[i64 0, i64 0, i64 0, i64 0, i64 0, nsl], .own⟩).set n6 ⟨[i64 c0.op, i64 c0.dst, i64 c0.a, i64 c0.b, i64 c0.n, wc], .own⟩ = h7 at e7 g7
  simp only [wpM.2.2.1, g7, ldn]
  refine ⟨by simp, ?_⟩
  refine Wp.cl (R := fun v n' h' => Ev No (n6 + 1) h7 n' h' ∧ optV (defP c0) = v) (def_wp (x := c0) hwc e7.f fun n' h' e' => ⟨e', rfl⟩) ?_
  rintro _ n8 h8 ⟨e8, rfl⟩
  have e58 := Ev.more e7 e8
  obtain ⟨d0, isd, hd0, hdt, hdf⟩ : ∃ (d : Int) (isd : Bool), optV (defP c0) = .tuple #[i64 d, bo isd] ∧ (isd = true → defP c0 = some d) ∧ (isd = false → defP c0 = none) := by
    cases hdp : defP c0 with
    | none => exact ⟨0, false, rfl, by simp, by simp⟩
    | some d => exact ⟨d, true, rfl, by simp, by simp⟩
  rw [hd0]
  simp only [Wp.extractI, List.getElem?_cons_zero, List.getElem?_cons_succ, Option.some.injEq, exists_eq_left']
  refine ⟨by simp [isNF], by simp [isNF], ?_⟩
  refine Wp.jn (fun j => ∀ c2 : Bool, (c2 = true ↔ DefAt P x r) → Wp (j (pt bp 0) (i64 r) (pt n 0) (.map (some (n + 1))) v' (pt n1 0) (bo c2)) n8 h8 Q) ?_ fun j52 hj52 => ?_
  case refine_2 =>
    simp only [wpS.1, wpS.2.1, wpS.2.2.1, wpS.2.2.2.2]
    refine ⟨fun h1 => ⟨fun h2 => hj52 _ ?_, fun h2 => hj52 _ ?_⟩, fun h1 => hj52 _ ?_⟩
    · rw [decide_eq_true_eq]
      constructor
      · rintro rfl; exact ⟨c0, hok1 h1, hdt h2⟩
      · rintro ⟨c', h3, h4⟩
        rw [hok1 h1] at h3; cases h3
        rw [hdt h2] at h4; cases h4; rfl
    · refine ⟨fun h => absurd h (by decide), ?_⟩
      rintro ⟨c', h3, h4⟩
      rw [hok1 h1] at h3; cases h3
      rw [hdf h2] at h4; cases h4
    · refine ⟨fun h => absurd h (by decide), ?_⟩
      rintro ⟨c', h3, h4⟩
      rw [hok2 h1] at h3; cases h3
  intro c2 hc2
  have le58 := e58.le
  refine Wp.bool.2 ⟨fun h1 => ?_, fun h1 => ?_⟩
  · refine hr (d - 1) _ _ _ _ _ _ _ (by omega) ⟨rfl, rfl, rfl, rfl, S, ws, ivEv iv5 e58, fun y hy => ?_, by omega, by omega⟩
    rcases hdone5 y hy with h | h | rfl
    · exact .inl h
    · exact .inr h
    · exact .inr ⟨hat, .inl (hc2.1 h1)⟩
  have hnd : ¬ DefAt P x r := fun h => by have := hc2.2 h; rw [h1] at this; cases this
  have g8 : h8.get n1 = some ⟨[i64 x.f, i64 x.b, i64 x.i], .own⟩ := by rw [e58.no (by omega), g5]
  simp only [wpM.2.2.1, g8, ldn]
  refine ⟨by simp, ?_⟩
  have p8 := p.keep (Kp.ev (Ev.more e5 e58) hn)
  refine cl_next p8 lm (q := x) okx.1 (by omega) e58.f (by omega) fun n9 h9 vn e9 sn => ?_
  have e59 := Ev.more e58 e9
  have le9 := e9.le
  have lnx := nextP_len P x
  refine Wp.loop7 (fun d2 x0 x1 x2 x3 x4 x5 x6 n' h' => x0 = pt bp 0 ∧ x1 = i64 r ∧ x2 = pt n 0 ∧ x3 = .map (some (n + 1)) ∧ x5 = vn ∧ ∃ (k : Nat) (S ws : List Pt), x6 = i64 (k : Int) ∧ k + d2 = (nextP P x).length ∧ Iv S ws x4 n' h' ∧ Sl h' (fun b => n8 ≤ b ∧ b < n9) 3 PtC vn (nextP P x) ∧ (∀ c, InB x4 c → c < n8 ∨ n9 ≤ c) ∧ n9 ≤ n' ∧ (∀ y ∈ S, y ∈ ws ∨ Done S y ∨ y = x) ∧ (∀ y ∈ (nextP P x).take k, y ∈ S) ∧ unP P S + ws.length < d) ?_ (d := (nextP P x).length) ⟨rfl, rfl, rfl, rfl, rfl, 0, S, ws, rfl, by omega, ivEv iv5 e59, sn, fun c hc => .inl (by have := qv c hc; omega), Nat.le_refl _, hdone5, by simp, by omega⟩ (by omega)
  rintro d2 _ _ _ _ va vn _ n10 h10 rec2 ⟨rfl, rfl, rfl, rfl, rfl, k, S2, ws2, rfl, hk, iv2, sn2, hva, hn10, hdone2, hnx, hm2⟩ hr2
  have wk := wrap_succ (show k < 9223372036854775807 by omega)
  simp only [wpS.1, wpS.2.1, wpS.2.2.1, wpS.2.2.2.2, sn2.len, decide_eq_true_eq, decide_eq_false_iff_not]
  refine ⟨fun hlt2 => ?_, fun hge2 => ?_⟩
  case refine_2 =>
    refine hr _ _ _ _ _ _ _ _ hm2 ⟨rfl, rfl, rfl, rfl, S2, ws2, iv2, fun y hy => ?_, rfl, by omega⟩
    rcases hdone2 y hy with h | h | rfl
    · exact .inl h
    · exact .inr h
    · exact .inr ⟨hat, .inr (all_end hnx (by omega))⟩
  obtain ⟨y, hy, _⟩ := Sl.get (show k < (nextP P x).length by omega)
  obtain ⟨oky, _, okyf⟩ := nextP_ok (List.mem_of_getElem? hy)
  have oky := (nextP_ok (List.mem_of_getElem? hy)).2.1
  obtain ⟨by_, oy, csy, kdy, _, hixy, hby, hky, hpy, hcsy, hin3, hly, hdy⟩ := sn2.at hy
  have hpy := hpy.all
  subst hpy
  obtain ⟨a1, a2, a3, a4, a5, a6, a7, a8, a9, a10⟩ := iv2
  refine Wp.jn (fun j => ∀ S ws v n' h', Iv S ws v n' h' → Sl h' (fun b => n8 ≤ b ∧ b < n9) 3 PtC vn (nextP P x) → (∀ c, InB v c → c < n8 ∨ n9 ≤ c) → n9 ≤ n' → (∀ y ∈ S, y ∈ ws ∨ Done S y ∨ y = x) → (∀ y ∈ (nextP P x).take (k + 1), y ∈ S) → unP P S + ws.length < d → Wp (j (pt bp 0) (i64 r) (pt n 0) (.map (some (n + 1))) v vn (i64 (k : Int))) n' h' Q) ?_ fun j72 hj72 => ?_
  case refine_1 =>
    intro S ws v n' h' iv sn hv hn' hd' hnx' hm'
    simp only [wpS, wk]
    exact hr2 (d2 - 1) _ _ _ _ _ _ _ _ _ (by omega) ⟨rfl, rfl, rfl, rfl, rfl, k + 1, S, ws, rfl, by omega, iv, sn, hv, hn', hd', hnx', hm'⟩
  have fity := oky.fit lm
  simp only [hixy, wpM.2.2.1, hby, ldn_live hky, hdy]
  refine ⟨hly, ?_⟩
  refine (a4.look fity).2 ?_
  simp only [wpS.1, wpS.2.1, wpS.2.2.1, wpS.2.2.2.2, hixy, wpM.2.2.1, hby, ldn_live hky, hdy]
  refine ⟨fun hno => ⟨hly, ?_⟩, fun hyes => ?_⟩
  case refine_2 =>
    have hyes : y ∈ S2 := by simpa using hyes
    exact hj72 _ _ _ _ _ ⟨a1, a2, a3, a4, a5, a6, a7, a8, a9, a10⟩ sn2 hva hn10 hdone2 (all_succ hnx hy hyes) hm2
  have hno : y ∉ S2 := by simpa using hno
  refine a4.put fity hno fun B m11 => ?_
  have e11 := a1.set (b := n + 1) B (by omega) (by omega)
  have q11 : Qs (h10.set (n + 1) B) n 3 PtC va ws2 := a5.keep (fun c hc => by rw [H.get_set_ne _ _ (fun q => a7 (by subst q; exact hc))]) fun _ _ h => h
  have hby' : (h10.set (n + 1) B).get by_ = some ⟨csy, kdy⟩ := by rw [H.get_set_ne _ _ (by omega)]; exact hby
  have sn11 : Sl (h10.set (n + 1) B) (fun b => n8 ≤ b ∧ b < n9) 3 PtC vn (nextP P x) := sn2.keep (fun _ h => h) (fun b hb => by rw [H.get_set_ne _ _ (by omega)]) fun _ _ h => h
  obtain ⟨by2, oy2, csy2, kdy2, _, hixy2, hby2, hky2, hpy2, hcsy2, hin4, hly2, hdy2⟩ := sn11.at hy
  have hpy2 := hpy2.all
  subst hpy2
  simp only [hixy2, wpM.2.2.1, hby2, ldn_live hky2, hdy2]
  refine ⟨hly2, ?_⟩
  refine Qs.push (s := 3) (x := y) (E := PtC) (es := [i64 y.f, i64 y.b, i64 y.i]) e11 q11 (by simp [fillA, rep, over, oneS]) rfl (by decide) (by simp [oneS]) rfl ⟨by omega, by decide⟩ fun h12 v12 e12 q12 same new => ?_
  have hm12 := unP_push oky.mem hno
  refine hj72 (S2 ++ [y]) (ws2 ++ [y]) _ _ _ ⟨e12, by omega, ?_, m11.keep (same _ a2 a7), q12, fun q => by have := new _ q; omega, fun q => by have := new _ q; omega, fun z hz => ?_, fun z hz => ?_, List.mem_append_left _ a10⟩ (sn11.keep (fun _ h => h) (fun b hb => same b (by omega) (fun q => by have := hva b q; omega)) fun _ _ h => h) (fun c hc => .inr (by have := new c hc; omega)) (by omega) (fun z hz => ?_) (all_succ (fun z hz => List.mem_append_left _ (hnx z hz)) hy (by simp)) (by simp; omega)
  · rw [same n (by omega) a6, H.get_set_ne _ _ (by omega), a3]
  · rcases List.mem_append.1 hz with h | h
    · exact List.mem_append_left _ (a8 z h)
    · exact List.mem_append_right _ h
  · rcases List.mem_append.1 hz with h | h
    · exact a9 z h
    · simp at h; subst h; exact ⟨oky, by rw [(nextP_ok (List.mem_of_getElem? hy)).2.2, okx.2]⟩
  · rcases List.mem_append.1 hz with h | h
    · rcases hdone2 z h with h | h | h
      · exact .inl (List.mem_append_left _ h)
      · exact .inr (.inl ⟨h.1, h.2.imp_right fun h y hy => List.mem_append_left _ (h y hy)⟩)
      · exact .inr (.inr h)
    · exact .inl (List.mem_append_right _ h)
end Go.Fn
end
section
set_option linter.unusedVariables false
namespace Go.Fn
open Go Go.Fw

variable {F n : Nat} {h : H} {Q : Post}

/-- A register that is read at a point is assigned there. -/
def AsPt (P : Pg) (q : Pt) (u : Int) : Prop := ∀ fn s, getI P.funcs q.f = some fn → getI P.sigs fn.sig = some s → u < (s.params.length : Int) ∨ ∀ x, Fwd P u q.f x → ¬ (x.b = q.b ∧ x.i = q.i)
def As (P : Pg) : Prop := ∀ q ∈ pointsP P, ∀ u ∈ readsP P q, AsPt P q u

theorem usesP_len (x : Ins) : (usesP x).length ≤ x.args.length + 2 := by
  unfold usesP; split
  · simp
  split
  · simp
  split
  · omega
  split <;> simp
theorem readsP_len {P : Pg} (lm : Lm P) (q : Pt) : (readsP P q).length ≤ 6 := by
  unfold readsP
  split
  · rename_i x hx
    have := lm.args hx
    have := usesP_len x
    omega
  · split
    · split <;> simp
    · simp

theorem assign_wp {n0 : Nat} {P : Pg} {bp : Nat} {vr vs vi vm vf : V} (p : Prg h n0 P bp vr vs vi vm vf) (nm : Nm P) (lm : Lm P) (hF : 100000 < F)
    (f : Fr n h) (hn : n0 ≤ n) (q : ∀ z q n' h', Ev No n h n' h' → (z = true → As P) → Q (.tuple #[ptV q, bo z]) n' h') : Wp (R8_Assign F (pt bp 0)) n h Q := by
  unfold R8_Assign
  refine (Wp.ptrI f).2 ⟨by simp [oneS], ?_⟩
  have e0 := (Ev.start f).new ⟨[i64 0, i64 0, i64 0], .own⟩
  have p0 := p.keep (Kp.ev e0 hn)
  have g0 : (h.set n ⟨[i64 0, i64 0, i64 0], .own⟩).get n = some ⟨[i64 0, i64 0, i64 0], .own⟩ := H.get_set_same _ _ _
  generalize h.set n ⟨[i64 0, i64 0, i64 0], .own⟩ = h0 at e0 p0 g0 ⊢
  have k0 : ∀ {n' h'}, Ev No (n + 1) h0 n' h' → h'.get n = some ⟨[i64 0, i64 0, i64 0], .own⟩ := fun e => by rw [e.no (by omega), g0]
  have give : ∀ {n' h'}, Ev No (n + 1) h0 n' h' → ∀ (z : Bool) (x : Pt), (z = true → As P) → Wp (kStoreN 3 (pt n 0) (ptV x) fun _ => kLoadN 3 (pt n 0) fun v20 => tupK [v20, (bo z)]) n' h' Q := fun {n' h'} e' z x hz => by
    have le' := e'.le
    have g2 := k0 e'
    have e3 := Ev.more e0 e'
    have := q z x _ _ (e3.set (b := n) ⟨[i64 x.f, i64 x.b, i64 x.i], .own⟩ (by omega) (by omega)) hz
    simpa [wpS, wpM, g2, wsn, ldn, over, oneS, H.get_set_same] using this
  refine cl_points p0 lm e0.f (by omega) hF fun n2 h2 vl e2 sl2 => ?_
  have le2 := e2.le
  have lp := lm.points
  refine Wp.jn (fun j => ∀ n' h', Ev No n2 h2 n' h' → As P → Wp (j (pt n 0)) n' h' Q) (fun n' h' e' ha => cl_nowhere e'.f fun n3 h3 e3 => give (Ev.more e2 (Ev.more e' e3)) true _ fun _ => ha) fun j hj => ?_
  refine Wp.loop4 (fun d x0 x1 x2 x3 n' h' => Ev No n2 h2 n' h' ∧ x0 = pt bp 0 ∧ x1 = pt n 0 ∧ x2 = vl ∧ ∃ (k : Nat), x3 = i64 (k : Int) ∧ k + d = (pointsP P).length ∧ ∀ q ∈ (pointsP P).take k, ∀ u ∈ readsP P q, AsPt P q u) ?_ (d := (pointsP P).length) ⟨Ev.start e2.f, rfl, rfl, rfl, 0, rfl, by omega, by simp⟩ (by omega)
  rintro d _ _ vl _ n3 h3 rec ⟨e3, rfl, rfl, rfl, k, rfl, hk, ha⟩ hr
  have le3 := e3.le
  have p3 := p0.keep (Kp.ev (Ev.more e2 e3) (by omega))
  have sl3 := sl2.ev e3 (by omega)
  have wk := wrap_succ (show k < 9223372036854775807 by omega)
  simp only [wpS.1, wpS.2.1, wpS.2.2.1, wpS.2.2.2.2, sl3.len, decide_eq_true_eq, decide_eq_false_iff_not]
  refine ⟨fun hlt => ?_, fun hge => hj _ _ e3 (all_end ha (by omega))⟩
  obtain ⟨x, hx, _⟩ := Sl.get (show k < (pointsP P).length by omega)
  have okx := PtOk.of hx
  obtain ⟨bl, hbl⟩ := okx.blo
  obtain ⟨bq, oq, csq, kdq, _, hixq, hbq, hkq, hpq, hcsq, ltq, hlq, hdq⟩ := sl3.at hx
  have hpq := hpq.all
  subst hpq
  refine Wp.jn (fun j => ∀ n' h', Ev No n2 h2 n' h' → (∀ u ∈ readsP P x, AsPt P x u) → Wp (j (pt bp 0) (pt n 0) vl (i64 (k : Int))) n' h' Q) ?_ fun j14 hj14 => ?_
  case refine_1 =>
    intro n' h' e' hu
    simp only [wpS, wk]
    exact hr (d - 1) _ _ _ _ _ _ (by omega) ⟨e', rfl, rfl, rfl, k + 1, rfl, by omega, all_succ ha hx hu⟩
  simp only [hixq, wpM.2.2.1, hbq, ldn_live hkq, hdq]
  refine ⟨hlq, ?_⟩
  refine Wp.cl (R := fun v n' h' => Ev No n3 h3 n' h' ∧ SlI h' n3 n' v (readsP P x)) (reads_wp p3 lm (q := x) hbl e3.f (by omega) fun n' h' w e' s => ⟨e', s⟩) ?_
  rintro vu n4 h4 ⟨e4, s4⟩
  have le4 := e4.le
  have e24 := Ev.more e3 e4
  have lr := readsP_len lm x
  refine Wp.loop6 (fun d2 x0 x1 x2 x3 x4 x5 n' h' => Ev No n4 h4 n' h' ∧ x0 = pt bp 0 ∧ x1 = pt n 0 ∧ x2 = vl ∧ x3 = i64 (k : Int) ∧ x4 = vu ∧ ∃ (i : Nat), x5 = i64 (i : Int) ∧ i + d2 = (readsP P x).length ∧ ∀ u ∈ (readsP P x).take i, AsPt P x u) ?_ (d := (readsP P x).length) ⟨Ev.start e4.f, rfl, rfl, rfl, rfl, rfl, 0, rfl, by omega, by simp⟩ (by omega)
  rintro d2 _ _ vl _ vu _ n5 h5 rec2 ⟨e5, rfl, rfl, rfl, rfl, rfl, i, rfl, hi, hb⟩ hr2
  have wi := wrap_succ (show i < 9223372036854775807 by omega)
  have s5 := s4.ev e5 (Nat.le_refl _)
  have e25 := Ev.more e24 e5
  have p5 := p0.keep (Kp.ev (Ev.more e2 e25) (by omega))
  have sl5 := sl2.ev e25 (by omega)
  have le5 := e5.le
  simp only [wpS.1, wpS.2.1, wpS.2.2.1, wpS.2.2.2.2, s5.len, decide_eq_true_eq, decide_eq_false_iff_not]
  refine ⟨fun hlt2 => ?_, fun hge2 => hj14 _ _ e25 (all_end hb (by omega))⟩
  obtain ⟨u, hu, _⟩ := Sl.get (show i < (readsP P x).length by omega)
  obtain ⟨b6, o6, cs6, kd6, _, hix6, hb6, hk6, rfl, hcs6, _⟩ := s5.at hu
  have c6 : cs6[o6]? = _ := hcs6 0 _ rfl
  obtain ⟨bq, oq, csq, kdq, _, hixq, hbq, hkq, hpq, hcsq, ltq, hlq, hdq⟩ := sl5.at hx
  have hpq := hpq.all
  subst hpq
  have q0 : csq[oq]? = _ := hcsq 0 _ rfl
  simp only [hixq, hix6, wpS.1, wpS.2.1, wpS.2.2.1, wpS.2.2.2.2, wpM.2.2.1, wpM.1, hbq, hb6, ldn_live hkq, ldv_live hkq, ldv_live hk6, q0, c6, hdq, Nat.add_zero, Option.some.injEq, exists_eq_left']
  refine ⟨hlq, ?_⟩
  obtain ⟨kf, kb, ki, fn, bl', rfl, hf, _, _⟩ := okx.nat
  obtain ⟨ks, s, hks, hs1, hs2, _⟩ := getI_of (nm.funcs fn (List.mem_of_getElem? hf)).sig
  refine Wp.cl (R := fun v n' h' => ∃ z, bo z = v ∧ Ev No n5 h5 n' h' ∧ (z = false → u < (s.params.length : Int) ∨ ∀ x, Fwd P u kf x → ¬ (x.b = (kb : Int) ∧ x.i = (ki : Int)))) (free_wp p5 nm lm (r := u) (at_ := ⟨kf, kb, ki⟩) hf hs1 hF e5.f (by omega) fun z n' h' e' hz => ⟨z, rfl, e', hz⟩) ?_
  rintro _ n6 h6 ⟨z, rfl, e6, hz⟩
  have e26 := Ev.more e25 e6
  have sl6 := sl2.ev e26 (by omega)
  refine Wp.bool.2 ⟨fun _ => ?_, fun h0 => ?_⟩
  · obtain ⟨bq, oq, csq, kdq, _, hixq, hbq, hkq, hpq, hcsq, ltq, hlq, hdq⟩ := sl6.at hx
    have hpq := hpq.all
    subst hpq
    simp only [hixq]
    refine Wp.loadNI.2 ?_
    rw [hbq]
    refine (ldn_live hkq).2 ⟨hlq, ?_⟩
    rw [hdq]
    exact give (Ev.more e2 e26) false ⟨kf, kb, ki⟩ (by simp)
  · simp only [wpS, wi]
    refine hr2 (d2 - 1) _ _ _ _ _ _ _ _ (by omega) ⟨Ev.more e5 e6, rfl, rfl, rfl, rfl, rfl, i + 1, rfl, by omega, all_succ hb hu fun fn' s' h1 h2 => ?_⟩
    rw [getI_nat, hf] at h1; cases h1
    rw [hs1] at h2; cases h2
    exact hz h0

/-- A program that may be. -/
structure Rt (P : Pg) : Prop where
  lm : Lm P
  nm : Nm P
  mt : ∀ m ∈ P.imps, MtI P m
  tp : Tp P
  as_ : As P
theorem cl_bounds {n0 : Nat} {P : Pg} {bp : Nat} {vr vs vi vm vf : V} {K : V → St} (p : Prg h n0 P bp vr vs vi vm vf) (f : Fr n h) (hn : n0 ≤ n) (hF : 1000 < F) (k : ∀ z n' h', Ev No n h n' h' → (z = true → Lm P) → Wp (K (bo z)) n' h' Q) : Wp (cl (R8_Bounds F (pt bp 0)) K) n h Q := by
  refine Wp.cl (R := fun v n' h' => ∃ z, bo z = v ∧ Ev No n h n' h' ∧ (z = true → Lm P)) (bounds_wp p f hn hF fun z n' h' e' hz => ⟨z, rfl, e', hz⟩) ?_
  rintro _ n6 h6 ⟨z, rfl, e6, hz⟩
  exact k _ _ _ e6 hz

theorem check_wp {n0 : Nat} {P : Pg} {bp : Nat} {vr vs vi vm vf : V} (p : Prg h n0 P bp vr vs vi vm vf) (hF : 100000 < F)
    (f : Fr n h) (hn : n0 ≤ n) (q : ∀ (z : Int) q n' h', Ev No n h n' h' → (z = 0 → Rt P) → Q (.tuple #[i64 z, ptV q]) n' h') : Wp (R8_Check F (pt bp 0)) n h Q := by
  unfold R8_Check
  refine (Wp.ptrI f).2 ⟨by simp [oneS], ?_⟩
  have e0 := (Ev.start f).new ⟨[i64 0, i64 0, i64 0], .own⟩
  have p0 := p.keep (Kp.ev e0 hn)
  have g0 : (h.set n ⟨[i64 0, i64 0, i64 0], .own⟩).get n = some ⟨[i64 0, i64 0, i64 0], .own⟩ := H.get_set_same _ _ _
  generalize h.set n ⟨[i64 0, i64 0, i64 0], .own⟩ = h0 at e0 p0 g0 ⊢
  have k0 : ∀ {n' h'}, Ev No (n + 1) h0 n' h' → h'.get n = some ⟨[i64 0, i64 0, i64 0], .own⟩ := fun e => by rw [e.no (by omega), g0]
  have give : ∀ {n' h'}, Ev No (n + 1) h0 n' h' → ∀ (z : Int) (x : Pt), (z = 0 → Rt P) → Wp (kStoreN 3 (pt n 0) (ptV x) fun _ => kLoadN 3 (pt n 0) fun v20 => tupK [i64 z, v20]) n' h' Q := fun {n' h'} e' z x hz => by
    have le' := e'.le
    have g2 := k0 e'
    have e3 := Ev.more e0 e'
    have := q z x _ _ (e3.set (b := n) ⟨[i64 x.f, i64 x.b, i64 x.i], .own⟩ (by omega) (by omega)) hz
    simpa [wpS, wpM, g2, wsn, ldn, over, oneS, H.get_set_same] using this
  refine cl_bounds p0 e0.f (by omega) (by omega) fun z1 n1 h1 e1 hz1 => ?_
  have le1 := e1.le
  have p1 := p0.keep (Kp.ev e1 (by omega))
  refine (Wp.eq st_not).2 (Wp.bool.2 ⟨fun _ => cl_nowhere e1.f fun n2 h2 e2 => give (Ev.more e1 e2) 2 _ (by simp), fun h => ?_⟩)
  have lm := hz1 (by simpa using h)
  refine Wp.cl (R := fun v n' h' => ∃ z q, .tuple #[ptV q, bo z] = v ∧ Ev No n1 h1 n' h' ∧ (z = true → Nm P)) (names_wp p1 lm e1.f (by omega) hF fun z q n' h' e' hz => ⟨z, q, rfl, e', hz⟩) ?_
  rintro _ n2 h2 ⟨z2, q2, rfl, e2, hz2⟩
  have e12 := Ev.more e1 e2
  have le2 := e2.le
  simp only [Wp.extractI, List.getElem?_cons_zero, List.getElem?_cons_succ, Option.some.injEq, exists_eq_left']
  refine ⟨by simp [isNF], by simp [isNF], Wp.put (cs := [i64 q2.f, i64 q2.b, i64 q2.i]) e2.f (by simp [oneS]) (by simp [oneS]) rfl rfl ?_⟩
  have e3 := (e12.new ⟨[i64 0, i64 0, i64 0], .own⟩).set (b := n2) ⟨[i64 q2.f, i64 q2.b, i64 q2.i], .own⟩ (by omega) (by omega)
  have g3 : ((h2.set n2 ⟨[i64 0, i64 0, i64 0], .own⟩).set n2 ⟨[i64 q2.f, i64 q2.b, i64 q2.i], .own⟩).get n2 = some ⟨[i64 q2.f, i64 q2.b, i64 q2.i], .own⟩ := H.get_set_same _ _ _
  generalize (h2.set n2 ⟨[i64 0, i64 0, i64 0], .own⟩).set n2 ⟨[i64 q2.f, i64 q2.b, i64 q2.i], .own⟩ = h3 at e3 g3
  have loadgive : ∀ {n' h'} (x : Pt), Ev No (n + 1) h0 n' h' → h'.get n2 = some ⟨[i64 x.f, i64 x.b, i64 x.i], .own⟩ → ∀ z : Int, z ≠ 0 → Wp (kLoadN 3 (pt n2 0) fun v12 => kStoreN 3 (pt n 0) v12 fun _ => kLoadN 3 (pt n 0) fun v14 => tupK [i64 z, v14]) n' h' Q := fun {n' h'} x e' g' z hz => by
    refine Wp.loadNI.2 ?_
    rw [g']
    refine ⟨by simp, ?_⟩
    exact give e' z x fun h => absurd h hz
  refine (Wp.eq st_not).2 (Wp.bool.2 ⟨fun _ => loadgive q2 e3 g3 3 (by decide), fun h => ?_⟩)
  have nm := hz2 (by simpa using h)
  have p3 := p0.keep (Kp.ev e3 (by omega))
  refine Wp.cl (R := fun v n' h' => ∃ z, bo z = v ∧ Ev No (n2 + 1) h3 n' h' ∧ (z = true → ∀ m ∈ P.imps, MtI P m)) (methods_wp p3 nm lm hF e3.f (by omega) fun z n' h' e' hz => ⟨z, rfl, e', hz⟩) ?_
  rintro _ n4 h4 ⟨z4, rfl, e4, hz4⟩
  have e14 := Ev.more e3 e4
  have le4 := e4.le
  refine (Wp.eq st_not).2 (Wp.bool.2 ⟨fun _ => cl_nowhere e4.f fun n5 h5 e5 => give (Ev.more e14 e5) 7 _ (by simp), fun h => ?_⟩)
  have mt := hz4 (by simpa using h)
  have p4 := p0.keep (Kp.ev e14 (by omega))
  have g4 : h4.get n2 = some ⟨[i64 q2.f, i64 q2.b, i64 q2.i], .own⟩ := by rw [e4.no (by omega), g3]
  -- a question whose answer is kept in the same place
  have ask : ∀ {n' h'} {m : St} {z0 : Int} {K : St} {A : Prop} {x : Pt}, z0 ≠ 0 → Ev No (n + 1) h0 n' h' → n2 < n' → h'.get n2 = some ⟨[i64 x.f, i64 x.b, i64 x.i], .own⟩ → Wp m n' h' (fun v n'' h'' => ∃ z q, .tuple #[ptV q, bo z] = v ∧ Ev No n' h' n'' h'' ∧ (z = true → A)) →
      (∀ n'' h'' (y : Pt), A → Ev No (n + 1) h0 n'' h'' → n2 < n'' → h''.get n2 = some ⟨[i64 y.f, i64 y.b, i64 y.i], .own⟩ → Wp K n'' h'' Q) →
      Wp (cl m fun v20 => kExtract v20 0 fun v21 => kExtract v20 1 fun v22 => kStoreN 3 (pt n2 0) v21 fun _ => kNot v22 fun v24 => onB v24 (kLoadN 3 (pt n2 0) fun v25 => kStoreN 3 (pt n 0) v25 fun _ => kLoadN 3 (pt n 0) fun v27 => tupK [(i64 z0), v27]) K) n' h' Q := by
    intro n' h' m z0 K A x hz0 e' hlt g' w k
    refine Wp.cl w ?_
    rintro _ n'' h'' ⟨z, y, rfl, e'', hz⟩
    have le'' := e''.le
    simp only [Wp.extractI, List.getElem?_cons_zero, List.getElem?_cons_succ, Option.some.injEq, exists_eq_left']
    refine ⟨by simp [isNF], by simp [isNF], Wp.storeNI.2 ⟨rfl, ?_⟩⟩
    rw [e''.no hlt, g']
    refine ⟨by simp [oneS], by simp, ?_⟩
    have e3 := (Ev.more e' e'').set (b := n2) ⟨[i64 y.f, i64 y.b, i64 y.i], .own⟩ (by omega) (by omega)
    simp only [over, List.take_zero, List.nil_append, List.toList_toArray, List.length_cons, List.length_nil, List.drop_succ_cons, List.drop_nil, List.append_nil, Nat.zero_add]
    refine (Wp.eq st_not).2 (Wp.bool.2 ⟨fun _ => loadgive y e3 (H.get_set_same _ _ _) z0 hz0, fun h => ?_⟩)
    exact k _ _ y (hz (by simpa using h)) e3 (by omega) (H.get_set_same _ _ _)
  refine ask (A := Tp P) (by decide) e14 (by omega) g4 (types_wp p4 nm lm hF e4.f (by omega) fun z q n' h' e' hz => ⟨z, q, rfl, e', hz⟩) fun n5 h5 y5 tp e5 lt5 g5 => ?_
  have p5 := p0.keep (Kp.ev e5 (by omega))
  refine ask (A := True) (by decide) e5 lt5 g5 (shape_wp p5 nm lm hF e5.f (by omega) fun z q n' h' e' => ⟨z, q, rfl, e', fun _ => trivial⟩) fun n6 h6 y6 _ e6 lt6 g6 => ?_
  have p6 := p0.keep (Kp.ev e6 (by omega))
  refine ask (A := As P) (by decide) e6 lt6 g6 (assign_wp p6 nm lm hF e6.f (by omega) fun z q n' h' e' hz => ⟨z, q, rfl, e', hz⟩) fun n7 h7 y7 as_ e7 lt7 g7 => ?_
  exact cl_nowhere e7.f fun n8 h8 e8 => give (Ev.more e7 e8) 0 _ fun _ => ⟨lm, nm, mt, tp, as_⟩

theorem right_wp {n0 : Nat} {P : Pg} {bp : Nat} {vr vs vi vm vf : V} (p : Prg h n0 P bp vr vs vi vm vf) (hF : 100000 < F)
    (f : Fr n h) (hn : n0 ≤ n) (q : ∀ (z : Bool) n' h', Ev No n h n' h' → (z = true → Rt P) → Q (bo z) n' h') : Wp (L14_Right F (pt bp 0)) n h Q := by
  unfold L14_Right
  refine Wp.jn (fun j => ∀ (z : Bool) n' h', Ev No n h n' h' → Wp (j (pt bp 0) (bo z)) n' h' Q) ?_ fun j hj => ?_
  case refine_1 =>
    intro z n1 h1 e1
    refine Wp.bool.2 ⟨fun _ => Wp.retI.2 (q false _ _ e1 (by simp)), fun _ => ?_⟩
    have le1 := e1.le
    have p1 := p.keep (Kp.ev e1 hn)
    refine Wp.cl (R := fun v n' h' => ∃ (z : Int) (q : Pt), .tuple #[i64 z, ptV q] = v ∧ Ev No n1 h1 n' h' ∧ (z = 0 → Rt P)) (check_wp p1 hF e1.f (by omega) fun z q n' h' e' hz => ⟨z, q, rfl, e', hz⟩) ?_
    rintro _ n2 h2 ⟨z2, q2, rfl, e2, hz2⟩
    have le2 := e2.le
    simp only [Wp.extractI, List.getElem?_cons_zero, List.getElem?_cons_succ, Option.some.injEq, exists_eq_left']
    refine ⟨by simp [isNF], by simp [isNF], Wp.put (cs := [i64 q2.f, i64 q2.b, i64 q2.i]) e2.f (by simp [oneS]) (by simp [oneS]) rfl rfl ?_⟩
    simp only [wpS]
    exact q _ _ _ (((Ev.more e1 e2).new _).set _ (by omega) (by omega)) fun h => hz2 (by simpa using h)
  simp [wpS.1, wpS.2.1, wpS.2.2.1, wpS.2.2.2.2]
  refine cl_bounds p f hn (by omega) fun z1 n1 h1 e1 hz1 => ?_
  have le1 := e1.le
  refine (Wp.eq st_not).2 (Wp.bool.2 ⟨fun _ => hj _ _ _ e1, fun h => ?_⟩)
  have lm := hz1 (by simpa using h)
  refine Wp.cl (R := fun v n' h' => ∃ z : Bool, bo z = v ∧ n1 = n' ∧ h1 = h') (small_wp (p.keep (Kp.ev e1 hn)) lm (by omega) fun z => ⟨z, rfl, rfl, rfl⟩) ?_
  rintro _ _ _ ⟨z, rfl, rfl, rfl⟩
  exact (Wp.eq st_not).2 (hj _ _ _ e1)
theorem right_nil (q : Q (bo false) n h) : Wp (L14_Right F (.pointer none)) n h Q := by
  unfold L14_Right
  simp [wpS]
  exact q
end Go.Fn
end
section
set_option linter.unusedVariables false
namespace Go.Fn
open Go Go.Fw

variable {F n : Nat} {h : H} {Q : Post} {K : V → St}

/-! ## Who owns a block -/

inductive Role where
  | no
  | mach
  | frm
  | hp
  | fld (k : Nat)
  | orc
  deriving DecidableEq
abbrev Rl := Nat → Role
def Rl.put (ρ : Rl) (n : Nat) (r : Role) : Rl := fun b => if b = n then r else ρ b
theorem Rl.put_same (ρ : Rl) (n : Nat) (r : Role) : ρ.put n r n = r := if_pos rfl
theorem Rl.put_ne {ρ : Rl} {n b : Nat} {r : Role} (h : b ≠ n) : ρ.put n r b = ρ b := if_neg h

/-- From one state to another: what is nobody's stays. -/
structure Mv (ρ : Rl) (n : Nat) (h : H) (ρ' : Rl) (n' : Nat) (h' : H) : Prop where
  le : n ≤ n'
  f : Fr n' h'
  role : ∀ b, b < n → ρ' b = ρ b
  same : ∀ b, b < n → ρ b = .no → h'.get b = h.get b
  fresh : ∀ b, n' ≤ b → ρ' b = .no
theorem Mv.refl {ρ : Rl} (f : Fr n h) (hf : ∀ b, n ≤ b → ρ b = .no) : Mv ρ n h ρ n h := ⟨Nat.le_refl _, f, fun _ _ => rfl, fun _ _ _ => rfl, hf⟩
theorem Mv.trans {ρ ρ' ρ'' : Rl} {n' n'' : Nat} {h' h'' : H} (a : Mv ρ n h ρ' n' h') (b : Mv ρ' n' h' ρ'' n'' h'') : Mv ρ n h ρ'' n'' h'' :=
  ⟨Nat.le_trans a.le b.le, b.f, fun c hc => (b.role c (Nat.lt_of_lt_of_le hc a.le)).trans (a.role c hc), fun c hc hr => (b.same c (Nat.lt_of_lt_of_le hc a.le) ((a.role c hc).trans hr)).trans (a.same c hc hr), b.fresh⟩
theorem Mv.ev {ρ ρ' : Rl} {n' n'' : Nat} {h' h'' : H} (a : Mv ρ n h ρ' n' h') (e : Ev No n' h' n'' h'') : Mv ρ n h ρ' n'' h'' :=
  a.trans ⟨e.le, e.f, fun _ _ => rfl, fun b hb _ => e.no hb, fun b hb => a.fresh b (Nat.le_trans e.le hb)⟩
theorem Mv.kp {ρ ρ' : Rl} {n0 n' : Nat} {h' : H} (a : Mv ρ n h ρ' n' h') (hn : n0 ≤ n) (h0 : ∀ b, b < n0 → ρ b = .no) : Kp n0 h h' := fun b hb => a.same b (by omega) (h0 b hb)
theorem Mv.set {ρ ρ' : Rl} {n' c : Nat} {h' : H} (a : Mv ρ n h ρ' n' h') (B : Blk) (hc : c < n') (hr : c < n → ρ c ≠ .no) : Mv ρ n h ρ' n' (h'.set c B) :=
  ⟨a.le, a.f.set B hc, a.role, fun b hb hno => by
    by_cases e : b = c
    · subst e; exact absurd hno (hr hb)
    · rw [H.get_set_ne _ _ e]; exact a.same b hb hno, a.fresh⟩

/-! ## Values, frames, objects -/

structure Val where
  k : Int
  n : Int
  t : Bool
abbrev valC (v : Val) : List V := [i64 v.k, i64 v.n, bo v.t]
abbrev valV (v : Val) : V := .agg #[i64 v.k, i64 v.n, bo v.t]
structure Frm where
  at_ : Pt
  rs : List Val
  dst : Int
structure Obj where
  site : Int
  rec_ : Int
  fs : List Val
  free : Bool

/-- A frame stands from o on. -/
structure FrAt (cs : List V) (o : Nat) (x : Frm) : Prop where
  len : o + 68 ≤ cs.length
  f : cs[o]? = some (i64 x.at_.f)
  b : cs[o + 1]? = some (i64 x.at_.b)
  i : cs[o + 2]? = some (i64 x.at_.i)
  n16 : x.rs.length = 16
  rk : ∀ (r : Nat) v, x.rs[r]? = some v → cs[o + 3 + r * 3]? = some (i64 v.k)
  rn : ∀ (r : Nat) v, x.rs[r]? = some v → cs[o + 3 + r * 3 + 1]? = some (i64 v.n)
  rt : ∀ (r : Nat) v, x.rs[r]? = some v → cs[o + 3 + r * 3 + 2]? = some (bo v.t)
  d : cs[o + 67]? = some (i64 x.dst)
theorem FrAt.keep {cs cs' : List V} {o : Nat} {x : Frm} (a : FrAt cs o x) (hl : cs'.length = cs.length) (k : ∀ j, o ≤ j → j < o + 68 → cs'[j]? = cs[j]?) : FrAt cs' o x := by
  have hr : ∀ (r : Nat) v, x.rs[r]? = some v → r < 16 := fun r v h => by
    have := (List.getElem?_eq_some_iff.1 h).1
    have := a.n16; omega
  exact ⟨by rw [hl]; exact a.len, by rw [k _ (by omega) (by omega)]; exact a.f, by rw [k _ (by omega) (by omega)]; exact a.b, by rw [k _ (by omega) (by omega)]; exact a.i, a.n16,
    fun r v h => by have := hr r v h; rw [k _ (by omega) (by omega)]; exact a.rk r v h, fun r v h => by have := hr r v h; rw [k _ (by omega) (by omega)]; exact a.rn r v h,
    fun r v h => by have := hr r v h; rw [k _ (by omega) (by omega)]; exact a.rt r v h, by rw [k _ (by omega) (by omega)]; exact a.d⟩
theorem FrAt.app {cs es : List V} {o : Nat} {x : Frm} (a : FrAt cs o x) : FrAt (cs ++ es) o x := by
  have g : ∀ {j u}, cs[j]? = some u → (cs ++ es)[j]? = some u := fun {j u} h => by
    rw [List.getElem?_append_left (List.getElem?_eq_some_iff.1 h).1]; exact h
  exact ⟨by rw [List.length_append]; have := a.len; omega, g a.f, g a.b, g a.i, a.n16, fun r v h => g (a.rk r v h), fun r v h => g (a.rn r v h), fun r v h => g (a.rt r v h), g a.d⟩

/-- The frames, the last on top. -/
structure FsAt (ρ : Rl) (h : H) (b c : Nat) (cs : List V) (kd : Kind) (xs : List Frm) : Prop where
  role : ρ b = .frm
  get : h.get b = some ⟨cs, kd⟩
  one : cs.all one = true
  kind : kd = .grow ∧ c = U + 68 ∨ kd = .own ∧ c = xs.length ∧ c < U
  len : xs.length * 68 ≤ cs.length
  own : kd = .own → cs.length = xs.length * 68
  mul : ∃ m, cs.length = m * 68
  own1 : kd = .own → xs.length = 1
  each : ∀ i x, xs[i]? = some x → FrAt cs (i * 68) x

/-- An object's fields. -/
def FldAt (ρ : Rl) (h : H) (k : Nat) (v : V) (fs : List Val) : Prop :=
  (fs = [] ∧ v = nsl) ∨ ∃ b cs, v = sl b 0 fs.length (U + 3) ∧ ρ b = .fld k ∧ h.get b = some ⟨cs, .grow⟩ ∧ cs.length = fs.length * 3 ∧ cs.all one = true ∧ ∀ i x, fs[i]? = some x → cs[i * 3]? = some (i64 x.k) ∧ cs[i * 3 + 1]? = some (i64 x.n) ∧ cs[i * 3 + 2]? = some (bo x.t)
theorem FldAt.one {ρ : Rl} {k : Nat} {v : V} {fs : List Val} (a : FldAt ρ h k v fs) : Fw.one v = true := by
  rcases a with ⟨_, rfl⟩ | ⟨b, cs, rfl, _⟩ <;> rfl
theorem FldAt.keep {ρ ρ' : Rl} {h' : H} {k : Nat} {v : V} {fs : List Val} (a : FldAt ρ h k v fs) (hk : ∀ b, ρ b = .fld k → (h.get b).isSome = true → ρ' b = .fld k ∧ h'.get b = h.get b) : FldAt ρ' h' k v fs := by
  rcases a with a | ⟨b, cs, rfl, a1, a2, a3⟩
  · exact .inl a
  · obtain ⟨k1, k2⟩ := hk b a1 (by rw [a2]; rfl)
    exact .inr ⟨b, cs, rfl, k1, by rw [k2]; exact a2, a3⟩
/-- The heap's objects. -/
def HpAt (ρ : Rl) (h : H) (v : V) (os : List Obj) : Prop :=
  (os = [] ∧ v = nsl) ∨ ∃ b cs, v = sl b 0 os.length (U + 3) ∧ os ≠ [] ∧ ρ b = .hp ∧ h.get b = some ⟨cs, .grow⟩ ∧ cs.length = os.length * 3 ∧ cs.all one = true ∧ ∀ k o, os[k]? = some o → cs[k * 3]? = some (i64 o.site) ∧ cs[k * 3 + 2]? = some (bo o.free) ∧ ∃ u, cs[k * 3 + 1]? = some u ∧ FldAt ρ h k u o.fs
theorem HpAt.one {ρ : Rl} {v : V} {os : List Obj} (a : HpAt ρ h v os) : Fw.one v = true := by
  rcases a with ⟨_, rfl⟩ | ⟨b, cs, rfl, _⟩ <;> rfl
theorem HpAt.keep {ρ ρ' : Rl} {h' : H} {v : V} {os : List Obj} (a : HpAt ρ h v os) (hk : ∀ b, ρ b = .hp ∨ (∃ k, ρ b = .fld k) → (h.get b).isSome = true → ρ' b = ρ b ∧ h'.get b = h.get b) : HpAt ρ' h' v os := by
  rcases a with a | ⟨b, cs, rfl, a0, a1, a2, a3, a4, a5⟩
  · exact .inl a
  · obtain ⟨k1, k2⟩ := hk b (.inl a1) (by rw [a2]; rfl)
    refine .inr ⟨b, cs, rfl, a0, by rw [k1]; exact a1, by rw [k2]; exact a2, a3, a4, fun k o ho => ?_⟩
    obtain ⟨q1, q2, u, q3, q4⟩ := a5 k o ho
    exact ⟨q1, q2, u, q3, q4.keep fun b hb hs => by
      obtain ⟨w1, w2⟩ := hk b (.inr ⟨k, hb⟩) hs
      exact ⟨by rw [w1]; exact hb, w2⟩⟩
/-- What comes from without. -/
def OrAt (ρ : Rl) (h : H) (v : V) (os : List Int) : Prop := Qs h 0 1 I1 v os ∧ ∀ c, InB v c → ρ c = .orc
theorem OrAt.keep {ρ ρ' : Rl} {h' : H} {v : V} {os : List Int} (a : OrAt ρ h v os) (f : Fr n h) (hk : ∀ b, ρ b = .orc → b < n → ρ' b = ρ b ∧ h'.get b = h.get b) : OrAt ρ' h' v os :=
  ⟨a.1.keep (fun c hc => (hk c (a.2 c hc) (a.1.lt f hc).2).2) fun _ _ h => h, fun c hc => by rw [(hk c (a.2 c hc) (a.1.lt f hc).2).1]; exact a.2 c hc⟩

/-- A machine. -/
structure Mc where
  fs : List Frm
  hp : List Obj
  os : List Int
  ended : Int
  called : Int
  sunk : Bool
  res : Val
abbrev mcC (bp : Nat) (vF vH vO : V) (M : Mc) : List V := [pt bp 0, vF, vH, vO, i64 M.ended, i64 M.called, bo M.sunk, i64 M.res.k, i64 M.res.n, bo M.res.t]
/-- It lies in block bM. -/
structure MM (ρ : Rl) (h : H) (bp bM : Nat) (M : Mc) (bF cF : Nat) (cs : List V) (kd : Kind) (vH vO : V) : Prop where
  role : ρ bM = .mach
  get : h.get bM = some ⟨mcC bp (sl bF 0 M.fs.length cF) vH vO M, .own⟩
  fs : FsAt ρ h bF cF cs kd M.fs
  hp : HpAt ρ h vH M.hp
  os : OrAt ρ h vO M.os
/-- A machine, somewhere. -/
def MA (ρ : Rl) (h : H) (bp bM : Nat) (M : Mc) : Prop := ∃ bF cF cs kd vH vO, MM ρ h bp bM M bF cF cs kd vH vO

/-- A step that touches nothing of the machine's. -/
theorem MM.keep {ρ ρ' : Rl} {h' : H} {bp bM : Nat} {M : Mc} {bF cF : Nat} {cs : List V} {kd : Kind} {vH vO : V} (m : MM ρ h bp bM M bF cF cs kd vH vO) (f : Fr n h) (hk : ∀ b, b < n → ρ b ≠ .no → ρ' b = ρ b ∧ h'.get b = h.get b) : MM ρ' h' bp bM M bF cF cs kd vH vO := by
  have lt : ∀ {b}, (h.get b).isSome = true → b < n := fun {b} hb => by
    rcases Nat.lt_or_ge b n with h1 | h1
    · exact h1
    · rw [f b h1] at hb; cases hb
  obtain ⟨a1, a2⟩ := hk bM (lt (by rw [m.get]; rfl)) (by rw [m.role]; simp)
  obtain ⟨b1, b2⟩ := hk bF (lt (by rw [m.fs.get]; rfl)) (by rw [m.fs.role]; simp)
  exact ⟨by rw [a1]; exact m.role, by rw [a2]; exact m.get, ⟨by rw [b1]; exact m.fs.role, by rw [b2]; exact m.fs.get, m.fs.one, m.fs.kind, m.fs.len, m.fs.own, m.fs.mul, m.fs.own1, m.fs.each⟩,
    m.hp.keep fun b hb hs => hk b (lt hs) (by rcases hb with hb | ⟨k, hb⟩ <;> rw [hb] <;> simp), m.os.keep f fun b hb hs => hk b hs (by rw [hb]; simp)⟩
theorem MM.ev {ρ : Rl} {n' : Nat} {h' : H} {bp bM : Nat} {M : Mc} {bF cF : Nat} {cs : List V} {kd : Kind} {vH vO : V} (m : MM ρ h bp bM M bF cF cs kd vH vO) (f : Fr n h) (e : Ev No n h n' h') : MM ρ h' bp bM M bF cF cs kd vH vO :=
  m.keep f fun b hb _ => ⟨rfl, e.no hb⟩
theorem MM.lt {ρ : Rl} {bp bM : Nat} {M : Mc} {bF cF : Nat} {cs : List V} {kd : Kind} {vH vO : V} (m : MM ρ h bp bM M bF cF cs kd vH vO) (f : Fr n h) : bM < n ∧ bF < n := ⟨f.lt m.get, f.lt m.fs.get⟩
theorem MM.live {ρ : Rl} {bp bM : Nat} {M : Mc} {bF cF : Nat} {cs : List V} {kd : Kind} {vH vO : V} (m : MM ρ h bp bM M bF cF cs kd vH vO) : kd ≠ .dead := by
  rcases m.fs.kind with ⟨rfl, _⟩ | ⟨rfl, _⟩ <;> decide

/-- The frame on top. -/
theorem cl_top {ρ : Rl} {bp bM : Nat} {M : Mc} {bF cF : Nat} {cs : List V} {kd : Kind} {vH vO : V} (m : MM ρ h bp bM M bF cF cs kd vH vO) {k : Nat} (hk : M.fs.length = k + 1) (hs : k < 1000) : Wp (cl (R14_Machine_top F (pt bM 0)) K) n h Q ↔ Wp (K (pt bF (k * 68))) n h Q := by
  refine clR ?_
  have : Wp (R14_Machine_top F (pt bM 0)) n h fun v n' h' => pt bF (k * 68) = v ∧ n = n' ∧ h = h' := by
    unfold R14_Machine_top
    simp [wpS, wpM, m.get, ldv_own, hk]
    rw [wrap64 (by omega), ixI (by omega)]
    simp [wpS]
  obtain ⟨v, n', h', e, rfl, rfl, rfl⟩ := this
  exact e
end Go.Fn
end
section
set_option linter.unusedVariables false
namespace Go.Fn
open Go Go.Fw

variable {F n : Nat} {h : H} {Q : Post} {K : V → St}

theorem ixA {m s b o i : Nat} (hi : i < m) : Wp (kIndexAddrA m s (pt b o) (i64 (i : Int)) K) n h Q ↔ Wp (K (pt b (o + i * s))) n h Q :=
  Wp.eq (by
    show bnd (if 0 ≤ (i : Int) ∧ (i : Int) < (m : Int) then Fw.ret (.pointer (some ⟨b, o + (i : Int).toNat * s, none⟩)) else fail) K = _
    rw [if_pos (by omega), Int.toNat_natCast]; rfl)
/-- A store into a block that may be written. -/
theorem st1W {b o : Nat} {cs : List V} {kd : Kind} {v : V} (hb : h.get b = some ⟨cs, kd⟩) (hk : kd = .own ∨ kd = .grow) (ho : o < cs.length) (h1 : one v = true) : Wp (kStore (pt b o) v K) n h Q ↔ Wp (K undef) n (h.set b ⟨cs.set o v, kd⟩) Q := by
  rw [Wp.storeI, hb]
  rcases hk with rfl | rfl <;> simp [wst, ho, h1]
theorem stNW {b o s : Nat} {cs vs : List V} {kd : Kind} (hb : h.get b = some ⟨cs, kd⟩) (hk : kd = .own ∨ kd = .grow) (hs : vs.length = s) (ho : o + s ≤ cs.length) (h1 : vs.all one = true) : Wp (kStoreN s (pt b o) (.agg vs.toArray) K) n h Q ↔ Wp (K undef) n (h.set b ⟨over cs o vs, kd⟩) Q := by
  rw [Wp.storeNI, hb]
  subst hs
  have h1 : ∀ x ∈ vs, one x = true := List.all_eq_true.1 h1
  rcases hk with rfl | rfl <;> simp [wsn, ho, h1] <;> exact fun _ => h1
theorem ldW {b o : Nat} {cs : List V} {kd : Kind} {v : V} (hb : h.get b = some ⟨cs, kd⟩) (hk : kd ≠ .dead) (hv : cs[o]? = some v) : Wp (kLoad (pt b o) K) n h Q ↔ Wp (K v) n h Q := by
  rw [Wp.loadI, hb, ldv_live hk, hv]; simp
theorem win3 {cs : List V} {o : Nat} {a b c : V} (h0 : cs[o]? = some a) (h1 : cs[o + 1]? = some b) (h2 : cs[o + 2]? = some c) : (cs.drop o).take 3 = [a, b, c] ∧ o + 3 ≤ cs.length := by
  have l2 := (List.getElem?_eq_some_iff.1 h2).1
  refine ⟨?_, by omega⟩
  apply List.ext_getElem?
  intro j
  rw [List.getElem?_take]
  by_cases hj : j < 3
  · rw [if_pos hj, List.getElem?_drop]
    rcases (by omega : j = 0 ∨ j = 1 ∨ j = 2) with rfl | rfl | rfl
    · exact h0
    · exact h1
    · exact h2
  · rw [if_neg hj, List.getElem?_eq_none (by simp; omega)]
theorem ld3W {b o : Nat} {cs : List V} {kd : Kind} {x y z : V} (hb : h.get b = some ⟨cs, kd⟩) (hk : kd ≠ .dead) (h0 : cs[o]? = some x) (h1 : cs[o + 1]? = some y) (h2 : cs[o + 2]? = some z) : Wp (kLoadN 3 (pt b o) K) n h Q ↔ Wp (K (.agg #[x, y, z])) n h Q := by
  obtain ⟨w1, w2⟩ := win3 h0 h1 h2
  rw [Wp.loadNI, hb, ldn_live hk, w1]; simp [w2]
theorem over_out {cs vs : List V} {o j : Nat} (ho : o + vs.length ≤ cs.length) (hj : j < o ∨ o + vs.length ≤ j) : (over cs o vs)[j]? = cs[j]? := by
  rw [over_get ho]
  rcases hj with hj | hj
  · rw [if_neg (by omega)]
  · rw [if_neg (by omega)]
theorem over_in {cs vs : List V} {o k : Nat} (ho : o + vs.length ≤ cs.length) (hk : k < vs.length) : (over cs o vs)[o + k]? = vs[k]? := by
  rw [over_get ho, if_pos (by omega)]; congr 1; omega
theorem over_all {cs vs : List V} {o : Nat} (h1 : cs.all one = true) (h2 : vs.all one = true) : (over cs o vs).all one = true := by
  unfold over
  rw [List.all_append, List.all_append, h2]
  simp only [List.all_eq_true, Bool.and_eq_true, Bool.and_true]  at h1 ⊢
  exact ⟨fun x hx => h1 x (List.mem_of_mem_take hx), fun x hx => h1 x (List.mem_of_mem_drop hx)⟩
theorem set_all {cs : List V} {o : Nat} {v : V} (h1 : cs.all one = true) (h2 : one v = true) : (cs.set o v).all one = true := by
  rw [List.all_eq_true] at h1 ⊢
  intro x hx
  rcases List.mem_or_eq_of_mem_set hx with hx | rfl
  · exact h1 x hx
  · exact h2

/-- A register of a frame is written. -/
theorem FrAt.setReg {cs : List V} {o r : Nat} {x : Frm} {v : Val} (a : FrAt cs o x) (hr : r < 16) : FrAt ((over cs (o + 3 + r * 3) (valC v)).set (o + 51 + r * 1) (bo true)) o { x with rs := x.rs.set r v } := by
  have hl := a.len
  have ho : o + 3 + r * 3 + (valC v).length ≤ cs.length := by simp; omega
  have g : ∀ {j}, j ≠ o + 51 + r * 1 → (j < o + 3 + r * 3 ∨ o + 3 + r * 3 + 3 ≤ j) → ((over cs (o + 3 + r * 3) (valC v)).set (o + 51 + r * 1) (bo true))[j]? = cs[j]? := fun {j} h1 h2 => by
    rw [List.getElem?_set_ne (by omega), over_out ho (by simpa using h2)]
  have w : ∀ {k}, k < 3 → ((over cs (o + 3 + r * 3) (valC v)).set (o + 51 + r * 1) (bo true))[o + 3 + r * 3 + k]? = (valC v)[k]? := fun {k} hk => by
    rw [List.getElem?_set_ne (by omega), over_in ho (by simpa using hk)]
  have n16 := a.n16
  refine ⟨by rw [List.length_set, over_length ho]; exact hl, by rw [g (by omega) (by omega)]; exact a.f, by rw [g (by omega) (by omega)]; exact a.b, by rw [g (by omega) (by omega)]; exact a.i, by simp [a.n16], ?_, ?_, ?_, by rw [g (by omega) (by omega)]; exact a.d⟩
  all_goals
    intro r' v' h'
    have hr' : r' < 16 := by
      have := (List.getElem?_eq_some_iff.1 h').1
      simp [n16] at this; exact this
    by_cases e : r' = r
    · subst e
      rw [List.getElem?_set_self (by omega)] at h'
      cases h'
      first | exact w (k := 0) (by omega) | exact w (k := 1) (by omega) | exact w (k := 2) (by omega)
    · rw [List.getElem?_set_ne (fun q => e q.symm)] at h'
      rw [g (by omega) (by omega)]
      first | exact a.rk r' v' h' | exact a.rn r' v' h' | exact a.rt r' v' h'

/-- The i-th frame is written. -/
theorem FsAt.upd {ρ : Rl} {b c i : Nat} {cs cs' : List V} {kd : Kind} {xs : List Frm} {x' : Frm} {h' : H} (a : FsAt ρ h b c cs kd xs) (hg : h'.get b = some ⟨cs', kd⟩) (hl : cs'.length = cs.length) (h1 : cs'.all Fw.one = true) (hi : i < xs.length) (hk : ∀ j, j < i * 68 ∨ i * 68 + 68 ≤ j → cs'[j]? = cs[j]?) (hx : FrAt cs' (i * 68) x') : FsAt ρ h' b c cs' kd (xs.set i x') := by
  refine ⟨a.role, hg, h1, ?_, by rw [List.length_set, hl]; exact a.len, fun q => by rw [List.length_set, hl]; exact a.own q, by rw [hl]; exact a.mul, fun q => by rw [List.length_set]; exact a.own1 q, fun j y hy => ?_⟩
  · rw [List.length_set]; exact a.kind
  · by_cases e : j = i
    · subst e
      rw [List.getElem?_set_self hi] at hy
      cases hy; exact hx
    · rw [List.getElem?_set_ne (fun q => e q.symm)] at hy
      exact (a.each j y hy).keep hl fun k h1 h2 => hk k (by
        rcases Nat.lt_or_ge j i with h | h
        · have := Nat.mul_le_mul_right 68 h
          rw [Nat.succ_mul] at this; omega
        · have := Nat.mul_le_mul_right 68 (show i + 1 ≤ j by omega)
          rw [Nat.succ_mul] at this; omega)
theorem FsAt.wr {ρ : Rl} {b c : Nat} {cs : List V} {kd : Kind} {xs : List Frm} (a : FsAt ρ h b c cs kd xs) : kd = .own ∨ kd = .grow := by
  rcases a.kind with ⟨h, _⟩ | ⟨h, _⟩
  · exact .inr h
  · exact .inl h

/-- A machine whose frames are written. -/
theorem MM.frames {ρ : Rl} {h' : H} {bp bM : Nat} {M : Mc} {bF cF : Nat} {cs cs' : List V} {kd : Kind} {vH vO : V} (m : MM ρ h bp bM M bF cF cs kd vH vO) (f : Fr n h) (hh : ∀ c, c < n → c ≠ bF → h'.get c = h.get c) {xs : List Frm} (hxs : xs.length = M.fs.length) (a : FsAt ρ h' bF cF cs' kd xs) : MM ρ h' bp bM { M with fs := xs } bF cF cs' kd vH vO := by
  have hne : ∀ {b}, ρ b ≠ .frm → b ≠ bF := fun {b} hb e => hb (by rw [e]; exact m.fs.role)
  have lt : ∀ {b}, (h.get b).isSome = true → b < n := fun {b} hb => by
    rcases Nat.lt_or_ge b n with h1 | h1
    · exact h1
    · rw [f b h1] at hb; cases hb
  refine ⟨m.role, ?_, a, m.hp.keep fun b hb hs => ⟨rfl, hh _ (lt hs) (hne (by rcases hb with hb | ⟨k, hb⟩ <;> rw [hb] <;> simp))⟩, m.os.keep f fun b hb hs => ⟨rfl, hh _ hs (hne (by rw [hb]; simp))⟩⟩
  rw [hh _ (m.lt f).1 (hne (by rw [m.role]; simp)), m.get]
  simp [hxs]

theorem cl_set {ρ : Rl} {bp bM : Nat} {M : Mc} {low : List Frm} {x : Frm} {r : Nat} {v : Val} (m : MA ρ h bp bM M) (hM : M.fs = low ++ [x]) (hs : low.length < 1000) (f : Fr n h) (hf : ∀ b, n ≤ b → ρ b = .no) (hr : r < 16)
    (k : ∀ h', Mv ρ n h ρ (n + 1) h' → MA ρ h' bp bM { M with fs := low ++ [{ x with rs := x.rs.set r v }] } → Wp (K undef) (n + 1) h' Q) : Wp (cl (R14_Machine_set F (pt bM 0) (i64 (r : Int)) (valV v)) K) n h Q := by
  obtain ⟨bF, cF, cs, kd, vH, vO, m⟩ := m
  refine Wp.cl (R := fun w n' h' => undef = w ∧ n' = n + 1 ∧ Mv ρ n h ρ (n + 1) h' ∧ MA ρ h' bp bM { M with fs := low ++ [{ x with rs := x.rs.set r v }] }) ?_ (by rintro _ _ h' ⟨rfl, rfl, m1, m2⟩; exact k h' m1 m2)
  unfold R14_Machine_set
  refine (Wp.boxNI f).2 ⟨by simp [oneS], ?_⟩
  have e0 := (Ev.start f).new ⟨valC v, .own⟩
  have mv0 := (Mv.refl f hf).ev e0
  have m0 := m.ev f e0
  have g0 : (h.set n ⟨valC v, .own⟩).get n = some ⟨valC v, .own⟩ := H.get_set_same _ _ _
  have hbF : bF < n := (m.lt f).2
  simp only [List.toList_toArray]
  generalize h.set n ⟨valC v, .own⟩ = h0 at e0 mv0 m0 g0
  have hl : M.fs.length = low.length + 1 := by rw [hM]; simp
  refine (cl_top m0 hl hs).2 ?_
  have top := m0.fs.each low.length x (by rw [hM]; simp)
  have hlen := top.len
  simp [wpS, wpM, g0, ldn]
  rw [ixA hr, stNW (s := 3) (vs := valC v) m0.fs.get m0.fs.wr rfl (by omega) (by simp [oneS])]
  simp [wpS]
  rw [ixA hr, st1W (H.get_set_same _ _ _) m0.fs.wr (by rw [over_length (by simp; omega)]; omega) rfl]
  simp only [wpS]
  have hu := top.setReg (v := v) hr
  have hl2 : ((over cs (low.length * 68 + 3 + r * 3) (valC v)).set (low.length * 68 + 51 + r * 1) (bo true)).length = cs.length := by rw [List.length_set, over_length (by simp; omega)]
  generalize hh1 : (h0.set bF ⟨over cs (low.length * 68 + 3 + r * 3) (valC v), kd⟩).set bF ⟨(over cs (low.length * 68 + 3 + r * 3) (valC v)).set (low.length * 68 + 51 + r * 1) (bo true), kd⟩ = h1
  have g1 : h1.get bF = some ⟨(over cs (low.length * 68 + 3 + r * 3) (valC v)).set (low.length * 68 + 51 + r * 1) (bo true), kd⟩ := by rw [← hh1, H.get_set_same]
  have n1 : ∀ c, c ≠ bF → h1.get c = h0.get c := fun c hc => by rw [← hh1, H.get_set_ne _ _ hc, H.get_set_ne _ _ hc]
  have hup := m0.fs.upd g1 hl2 (set_all (over_all m0.fs.one (by simp [oneS])) rfl) (by omega) (fun j hj => by
    rw [List.getElem?_set_ne (by omega), over_out (by simp; omega) (by simp; omega)]) hu
  have hset : M.fs.set low.length { x with rs := x.rs.set r v } = low ++ [{ x with rs := x.rs.set r v }] := by rw [hM]; simp
  rw [hset] at hup
  refine ⟨trivial, trivial, ?_, ⟨bF, cF, _, kd, vH, vO, m0.frames (mv0.f) (fun c _ hc => n1 c hc) (by simp [hl]) hup⟩⟩
  rw [← hh1]
  exact (mv0.set _ (by omega) (fun _ => by rw [m.fs.role]; simp)).set _ (by omega) (fun _ => by rw [m.fs.role]; simp)
end Go.Fn
end
section
set_option linter.unusedVariables false
namespace Go.Fn
open Go Go.Fw

variable {F n : Nat} {h : H} {Q : Post} {K : V → St}

theorem FrAt.ld {cs : List V} {o r : Nat} {x : Frm} {v : Val} (a : FrAt cs o x) (hv : x.rs[r]? = some v) : cs[o + 3 + r * 3]? = some (i64 v.k) ∧ cs[o + 3 + r * 3 + 1]? = some (i64 v.n) ∧ cs[o + 3 + r * 3 + 2]? = some (bo v.t) := ⟨a.rk r v hv, a.rn r v hv, a.rt r v hv⟩
theorem FrAt.lt {cs : List V} {o r : Nat} {x : Frm} {v : Val} (a : FrAt cs o x) (hv : x.rs[r]? = some v) : r < 16 := by
  have := (List.getElem?_eq_some_iff.1 hv).1
  have := a.n16; omega

theorem cl_object {ρ : Rl} {bp bM : Nat} {M : Mc} {bF cF : Nat} {cs : List V} {kd : Kind} {vH vO : V} {low : List Frm} {x : Frm} {r : Nat} {v : Val} (m : MM ρ h bp bM M bF cF cs kd vH vO) (hM : M.fs = low ++ [x]) (hs : low.length < 1000) (f : Fr n h) (hv : x.rs[r]? = some v)
    (k1 : v.k ≠ 2 → ∀ h', Ev No n h (n + 1) h' → Wp (K (.tuple #[.pointer none, i64 1])) (n + 1) h' Q) (k2 : v.k = 2 → ∀ h', Ev No n h (n + 1) h' → ∃ j : Nat, v.n = (j : Int) + 1 ∧ j < M.hp.length ∧ M.hp.length < 1000 ∧ ∀ bH, vH = sl bH 0 M.hp.length (U + 3) → Wp (K (.tuple #[pt bH (j * 3), i64 0])) (n + 1) h' Q) : Wp (cl (R14_Machine_object F (pt bM 0) (i64 (r : Int))) K) n h Q := by
  have hl : M.fs.length = low.length + 1 := by rw [hM]; simp
  have top := m.fs.each low.length x (by rw [hM]; simp)
  have hr := top.lt hv
  obtain ⟨c0, c1, c2⟩ := top.ld hv
  refine Wp.cl (R := fun w n' h' => n' = n + 1 ∧ Ev No n h (n + 1) h' ∧ ((v.k ≠ 2 ∧ w = .tuple #[.pointer none, i64 1]) ∨ (v.k = 2 ∧ ∃ (j bH : Nat), v.n = (j : Int) + 1 ∧ vH = sl bH 0 M.hp.length (U + 3) ∧ w = .tuple #[pt bH (j * 3), i64 0]))) ?_ ?_
  case refine_2 =>
    rintro w _ h' ⟨rfl, e, ⟨h1, rfl⟩ | ⟨h1, j, bH, h2, h3, rfl⟩⟩
    · exact k1 h1 h' e
    · obtain ⟨j', q1, q2, _, q3⟩ := k2 h1 h' e
      have : j' = j := by omega
      subst this
      exact q3 bH h3
  unfold R14_Machine_object
  refine (cl_top m hl hs).2 ?_
  simp [wpS]
  rw [ixA hr, ld3W m.fs.get m.live c0 c1 c2]
  refine Wp.put (cs := valC v) f (by simp [oneS]) (by simp [oneS]) rfl rfl ?_
  have e := ((Ev.start f).new ⟨[i64 0, i64 0, bo false], .own⟩).set (b := n) ⟨valC v, .own⟩ (by omega) (by omega)
  have g : ((h.set n ⟨[i64 0, i64 0, bo false], .own⟩).set n ⟨valC v, .own⟩).get n = some ⟨valC v, .own⟩ := H.get_set_same _ _ _
  generalize (h.set n ⟨[i64 0, i64 0, bo false], .own⟩).set n ⟨valC v, .own⟩ = h1 at e g ⊢
  have gM : h1.get bM = some ⟨mcC bp (sl bF 0 M.fs.length cF) vH vO M, .own⟩ := by rw [e.no (m.lt f).1]; exact m.get
  simp [wpS, wpM, g, gM, ldv_own, oneS]
  refine ⟨fun h1 => ⟨by simp [stv, one], e, h1⟩, fun h2 => ?_⟩
  obtain ⟨j, q1, q2, q4, _⟩ := k2 h2 _ e
  rcases m.hp with ⟨q3, _⟩ | ⟨bH, csH, rfl, _⟩
  · rw [q3] at q2; simp at q2
  rw [q1, wrap64 (by omega), show (j : Int) + 1 - 1 = (j : Int) by omega, ixI q2]
  simp [wpS, stv, one, e, h2, q1]
  exact ⟨j, rfl, rfl⟩

theorem cl_at {n0 : Nat} {P : Pg} {ρ : Rl} {bp bM : Nat} {M : Mc} {bF cF : Nat} {cs : List V} {kd : Kind} {vH vO : V} {low : List Frm} {x : Frm} {vr vs vi vm vf : V} (m : MM ρ h bp bM M bF cF cs kd vH vO) (p : Prg h n0 P bp vr vs vi vm vf) (lm : Lm P) (hM : M.fs = low ++ [x]) (hs : low.length < 1000) (f : Fr n h) (hn : n0 ≤ n) (hF : 100000 < F)
    (k : ∀ n' h', Ev No n h n' h' → Wp (K (i64 (numP P x.at_))) n' h' Q) : Wp (cl (R14_Machine_At F (pt bM 0)) K) n h Q := by
  have hl : M.fs.length = low.length + 1 := by rw [hM]; simp
  have top := m.fs.each low.length x (by rw [hM]; simp)
  refine Wp.cl (R := fun w n' h' => Ev No n h n' h' ∧ i64 (numP P x.at_) = w) ?_ (by rintro _ n' h' ⟨e, rfl⟩; exact k _ _ e)
  unfold R14_Machine_At
  simp [wpS, wpM, m.get, ldv_own]
  refine (cl_top m hl hs).2 ?_
  simp [wpS, wpM.1, wpN, m.get, ldn, veqS]
  rw [ld3W m.fs.get m.live top.f top.b top.i]
  have lp := lm.points
  have l2 := lm.funcs
  refine Wp.cl (R := fun v n' h' => Ev No n h n' h' ∧ i64 (numP P x.at_) = v) (number_wp p (q := x.at_) f hn (by omega) hF (by omega) (fun y hy => by have := (lm.fun_ y hy).blocks; omega) fun n' h' e => ⟨e, rfl⟩) ?_
  rintro _ n' h' ⟨e, rfl⟩
  simp only [wpS]
  exact ⟨e, trivial⟩

abbrev V3 (cs : List V) (v : Val) : Prop := cs = valC v
theorem cl_zero {t : Ty} (f : Fr n h) (k : ∀ n' h', Ev No n h n' h' → Wp (K (valV ⟨if t.1 = 0 then 0 else 1, 0, false⟩)) n' h' Q) : Wp (cl (R14_Zero F (tyV t)) K) n h Q := by
  refine Wp.cl (R := fun w n' h' => Ev No n h n' h' ∧ valV ⟨if t.1 = 0 then 0 else 1, 0, false⟩ = w) ?_ (by rintro _ n' h' ⟨e, rfl⟩; exact k _ _ e)
  unfold R14_Zero
  refine (Wp.boxNI f).2 ⟨by simp [oneS], ?_⟩
  have e0 := (Ev.start f).new ⟨[i64 t.1, i64 t.2], .own⟩
  refine (Wp.ptrI e0.f).2 ⟨by simp [oneS], ?_⟩
  have e1 := e0.new ⟨[i64 0, i64 0, bo false], .own⟩
  have e2 := fun B => e1.set (b := n + 1) B (by omega) (by omega)
  by_cases h0 : t.1 = 0
  · simp [wpS, wpM, H.get_set, ldv_own, h0, fillA, over, oneS, wsn, ldn]
    rw [h0] at e2
    exact e2 _
  · simp [wpS, wpM, H.get_set, ldv_own, h0, fillA, over, oneS, wsn, ldn]
    exact e2 _

theorem cl_args {n0 : Nat} {ρ : Rl} {bp bM : Nat} {M : Mc} {bF cF : Nat} {cs : List V} {kd : Kind} {vH vO va : V} {low : List Frm} {x : Frm} {ar : List Int} (m : MM ρ h bp bM M bF cF cs kd vH vO) (hM : M.fs = low ++ [x]) (hs : low.length < 1000) (sa : SlR h n0 1 IntC va ar) (ha : ∀ r ∈ ar, 0 ≤ r ∧ r < 16) (hl4 : ar.length < 1000) (f : Fr n h) (hn : n0 ≤ n) (hF : 1000 < F)
    (k : ∀ n' h' w vals, Ev No n h n' h' → Gs h' n 3 V3 w vals → vals.length = ar.length → (∀ (i r : Nat), ar[i]? = some (r : Int) → vals[i]? = x.rs[r]?) → Wp (K w) n' h' Q) : Wp (cl (R14_Machine_args F (pt bM 0) va) K) n h Q := by
  have hl : M.fs.length = low.length + 1 := by rw [hM]; simp
  let R : Post := fun w n' h' => ∃ vals, Ev No n h n' h' ∧ Gs h' n 3 V3 w vals ∧ vals.length = ar.length ∧ ∀ (i r : Nat), ar[i]? = some (r : Int) → vals[i]? = x.rs[r]?
  refine Wp.cl (R := R) ?_ (by rintro w n' h' ⟨vals, e, g, h1, h2⟩; exact k _ _ _ _ e g h1 h2)
  unfold R14_Machine_args
  refine Wp.jn (fun j => ∀ n' h' w vals, Ev No n h n' h' → Gs h' n 3 V3 w vals → vals.length = ar.length → (∀ (i r : Nat), ar[i]? = some (r : Int) → vals[i]? = x.rs[r]?) → Wp (j w) n' h' R) (fun n' h' w vals e g h1 h2 => Wp.retI.2 ⟨vals, e, g, h1, h2⟩) fun j hj => ?_
  refine Wp.loop4 (fun d x0 x1 x2 x3 n' h' => Ev No n h n' h' ∧ x0 = pt bM 0 ∧ x1 = va ∧ ∃ (i : Nat) (vals : List Val), x3 = i64 (i : Int) ∧ i + d = ar.length ∧ Gs h' n 3 V3 x2 vals ∧ vals.length = i ∧ ∀ (j r : Nat), j < i → ar[j]? = some (r : Int) → vals[j]? = x.rs[r]?) ?_ (d := ar.length) ⟨Ev.start f, rfl, rfl, 0, [], rfl, by omega, Gs.nil, rfl, by omega⟩ (by omega)
  rintro d _ va w _ n1 h1 rec ⟨e1, rfl, rfl, i, vals, rfl, hi, gl, hvl, hvs⟩ hr
  have m1 := m.ev f e1
  have le1 := e1.le
  have sa1 := sa.keep (Kp.ev e1 hn) fun _ _ h => h
  have wi := wrap_succ (show i < 9223372036854775807 by omega)
  have top := m1.fs.each low.length x (by rw [hM]; simp)
  simp only [wpS.1, wpS.2.1, wpS.2.2.1, wpS.2.2.2.2, sa1.len, decide_eq_true_eq, decide_eq_false_iff_not]
  refine ⟨fun hlt => ?_, fun hge => hj _ _ _ _ e1 gl (by omega) fun j r h2 => hvs j r (by have := (List.getElem?_eq_some_iff.1 h2).1; omega) h2⟩
  obtain ⟨r, hr1, _⟩ := Sl.get (show i < ar.length by omega)
  have hr2 := ha r (List.mem_of_getElem? hr1)
  obtain ⟨kr, rfl⟩ : ∃ k : Nat, r = k := ⟨r.toNat, by omega⟩
  obtain ⟨v, hv⟩ : ∃ v, x.rs[kr]? = some v := ⟨x.rs[kr]'(by have := top.n16; omega), List.getElem?_eq_getElem _⟩
  obtain ⟨c0, c1, c2⟩ := top.ld hv
  obtain ⟨b3, o3, cs3, kd3, _, hix3, hb3, hk3, ⟨rfl, _⟩, hcs3, _⟩ := sa1.at hr1
  have c3 : cs3[o3]? = _ := hcs3 0 _ rfl
  simp only [hix3, wpM.1, hb3, ldv_live hk3, c3, Option.some.injEq, exists_eq_left']
  refine (cl_top m1 hl hs).2 ?_
  simp [wpS, wpM, wpN, hb3, ldn_live hk3, take1 c3, lt1 c3, veqS]
  rw [ixA (show kr < 16 by omega), ld3W m1.fs.get m1.live c0 c1 c2]
  refine Gs.push (s := 3) (x := v) (E := V3) (es := valC v) e1 gl (by simp [fillA, rep, over, oneS]) rfl (by decide) (by simp [oneS]) rfl ⟨by omega, by decide⟩ fun h' v' e' g' _ _ _ => ?_
  simp only [wpS, wi]
  refine hr (d - 1) _ _ _ _ _ _ (by omega) ⟨e', rfl, rfl, i + 1, _, rfl, by omega, g', by simp [hvl], fun j r hj2 hr3 => ?_⟩
  by_cases e : j = i
  · subst e
    rw [hr1] at hr3
    have : kr = r := by have := Option.some.inj hr3; omega
    subst this
    rw [List.getElem?_append_right (by omega), hvl]; simp [hv]
  · rw [List.getElem?_append_left (by omega)]
    exact hvs j r (by omega) hr3
end Go.Fn
end
section
set_option linter.unusedVariables false
set_option maxRecDepth 4000
namespace Go.Fn
open Go Go.Fw

variable {F n : Nat} {h : H} {Q : Post} {K : V → St}

/-- One more on a stack. -/
theorem Wp.appStack {s bytes l b c : Nat} {cs es : List V} {kd : Kind} {w : V} (hb : h.get b = some ⟨cs, kd⟩) (hkind : kd = .grow ∧ c = U + s ∨ kd = .own ∧ c = l ∧ c < U) (hlen : l * s ≤ cs.length) (hmul : ∃ m, cs.length = m * s) (hown : kd = .own → cs.length = l * s) (hs : 0 < s)
    (hw : Cel h s w 1 es) (f : Fr n h) (h1 : cs.all one = true) (h2 : es.all one = true) (hbd : l < 1000000 ∧ bytes ≤ 1000)
    (kA : ∀ h', Fr (n + 1) h' → h'.get n = some ⟨cs ++ es, .grow⟩ → cs.length = l * s → (∀ c', c' < n → c' ≠ b → h'.get c' = h.get c') → Wp (K (sl n 0 (l + 1) (U + s))) (n + 1) h' Q)
    (kB : kd = .grow → (l + 1) * s ≤ cs.length → Wp (K (sl b 0 (l + 1) (U + s))) n (h.set b ⟨over cs (l * s) es, .grow⟩) Q) : Wp (kApp s bytes (sl b 0 l c) w K) n h Q := by
  have hbn := f.lt hb
  have hall : (cs ++ es).all one = true := by rw [List.all_append, h1, h2]; rfl
  have hsz : l + 1 ≤ 1099511627776 ∧ (l + 1) * bytes ≤ 70368744177664 := ⟨by omega, by
    have : (l + 1) * bytes ≤ 1000000 * 1000 := Nat.mul_le_mul (by omega) hbd.2
    omega⟩
  have hes : es.length = s := by have := hw.1; omega
  rcases hkind with ⟨rfl, rfl⟩ | ⟨rfl, rfl, hU⟩
  · obtain ⟨m, hm⟩ := hmul
    by_cases hroom : (l + 1) * s ≤ cs.length
    · have hw2 := hw
      obtain ⟨_, ⟨_, h0⟩ | ⟨xb, xo, xc, rfl, _⟩⟩ := hw2
      · omega
      have hr : (roomy s (sl b 0 l (U + s)) (sl xb xo 1 xc)).run n h = some (true, n, h) := by
        show (if U + s = U + s ∧ 1 ≠ 0 then room b (0 + (l + 1) * s) else Fw.ret false).run n h = _
        rw [if_pos ⟨rfl, by decide⟩]
        show roomF b (0 + (l + 1) * s) n h = _
        unfold roomF
        rw [hb]
        simp [hroom]
      refine Wp.of (opApp_eq hr) ?_
      rw [if_pos rfl]
      refine Wp.of ?_ (kB rfl hroom)
      show (bnd (if l + 1 ≤ 1099511627776 ∧ (l + 1) * bytes ≤ 70368744177664 then bnd (cellsOf s (sl xb xo 1 xc)) (fun news => bnd (wrN b (0 + l * s) news) fun _ => Fw.ret (.slice (some ⟨b, 0, none⟩) (l + 1) (U + s))) else fail) K).run n h = _
      rw [if_pos hsz, bnd_assoc, run_bnd hw.run, bnd_assoc]
      have hwr : (wrN b (0 + l * s) es).run n h = some ((), n, h.set b ⟨over cs (l * s) es, .grow⟩) := by
        show wrNF b (0 + l * s) es n h = _
        unfold wrNF
        rw [hb, Nat.zero_add]
        rw [Nat.add_mul, Nat.one_mul] at hroom
        simp [h2, hes, hroom]
      rw [run_bnd hwr]
      rfl
    · have hml : m = l := by
        have e1 : m < l + 1 := by
          rcases Nat.lt_or_ge m (l + 1) with h | h
          · exact h
          · exact absurd (hm ▸ Nat.mul_le_mul_right s h) hroom
        have e2 : l ≤ m := by
          rcases Nat.lt_or_ge m l with h | h
          · have := Nat.mul_lt_mul_of_pos_right h hs
            omega
          · exact h
        omega
      subst hml
      refine Wp.appGrow (l := m) (m := 1) hb hm hs hw (by decide) f hall hsz ?_
      exact kA _ ((f.set _ hbn).new _) (H.get_set_same _ _ _) hm fun c' h1 h2 => by rw [H.get_set_ne _ _ (by omega), H.get_set_ne _ _ h2]
  · have ho : Cel h s (sl b 0 c c) c cs := ⟨hown rfl, .inr ⟨b, 0, c, rfl, fun _ => ⟨cs, .own, hb, by decide, by have := hown rfl; omega, by rw [List.drop_zero, List.take_of_length_le (by have := hown rfl; omega)]⟩⟩⟩
    refine Wp.appNew (l := c) (m := 1) ho (.inr ⟨b, 0, c, rfl, by omega, hU⟩) hw (by decide) f hall hsz ?_
    exact kA _ (f.new _) (H.get_set_same _ _ _) (hown rfl) fun c' h1 h2 => by rw [H.get_set_ne _ _ (by omega)]

theorem FsAt.pushA {ρ : Rl} {b c b' : Nat} {cs es : List V} {kd : Kind} {xs : List Frm} {y : Frm} {h' : H} (a : FsAt ρ h b c cs kd xs) (hl : cs.length = xs.length * 68) (hg : h'.get b' = some ⟨cs ++ es, .grow⟩) (hy : FrAt es 0 y) (hes : es.length = 68) (h1 : es.all Fw.one = true) : FsAt (ρ.put b' .frm) h' b' (U + 68) (cs ++ es) .grow (xs ++ [y]) := by
  refine ⟨Rl.put_same _ _ _, hg, by rw [List.all_append, a.one, h1]; rfl, .inl ⟨rfl, rfl⟩, by rw [List.length_append, List.length_append, hl, hes, List.length_singleton, Nat.add_mul]; omega, fun q => (by cases q), ⟨xs.length + 1, by rw [List.length_append, hl, hes, Nat.add_mul]⟩, fun q => (by cases q), fun i x hx => ?_⟩
  rcases Nat.lt_or_ge i xs.length with hi | hi
  · rw [List.getElem?_append_left hi] at hx
    exact (a.each i x hx).app
  · have hlt := (List.getElem?_eq_some_iff.1 hx).1
    have hi2 : i = xs.length := by simp at hlt; omega
    subst hi2
    rw [List.getElem?_append_right (Nat.le_refl _)] at hx
    simp at hx
    subst hx
    rw [← hl]
    have g : ∀ {j u}, es[j]? = some u → (cs ++ es)[cs.length + j]? = some u := fun {j u} h => by
      rw [List.getElem?_append_right (by omega), Nat.add_sub_cancel_left]; exact h
    have hf := hy.f
    have hb := hy.b
    have hi := hy.i
    have hd := hy.d
    rw [Nat.zero_add] at hb hi hd
    exact ⟨by rw [List.length_append]; omega, g hf, g hb, g hi, hy.n16, fun r v h => by have := hy.rk r v h; rw [Nat.zero_add] at this; have := g this; rwa [show cs.length + (3 + r * 3) = cs.length + 3 + r * 3 by omega] at this,
      fun r v h => by have := hy.rn r v h; rw [Nat.zero_add] at this; have := g this; rwa [show cs.length + (3 + r * 3 + 1) = cs.length + 3 + r * 3 + 1 by omega] at this,
      fun r v h => by have := hy.rt r v h; rw [Nat.zero_add] at this; have := g this; rwa [show cs.length + (3 + r * 3 + 2) = cs.length + 3 + r * 3 + 2 by omega] at this, g hd⟩
theorem FsAt.pushB {ρ : Rl} {b c : Nat} {cs es : List V} {kd : Kind} {xs : List Frm} {y : Frm} {h' : H} (a : FsAt ρ h b c cs kd xs) (hl : (xs.length + 1) * 68 ≤ cs.length) (hg : h'.get b = some ⟨over cs (xs.length * 68) es, .grow⟩) (hy : FrAt es 0 y) (hes : es.length = 68) (h1 : es.all Fw.one = true) : FsAt ρ h' b (U + 68) (over cs (xs.length * 68) es) .grow (xs ++ [y]) := by
  have ho : xs.length * 68 + es.length ≤ cs.length := by rw [hes]; rw [Nat.add_mul] at hl; omega
  refine ⟨a.role, hg, over_all a.one h1, .inl ⟨rfl, rfl⟩, by rw [over_length ho, List.length_append]; exact hl, fun q => (by cases q), by rw [over_length ho]; exact a.mul, fun q => (by cases q), fun i x hx => ?_⟩
  rcases Nat.lt_or_ge i xs.length with hi | hi
  · rw [List.getElem?_append_left hi] at hx
    refine (a.each i x hx).keep (over_length ho) fun j h1 h2 => over_out ho (.inl ?_)
    have := Nat.mul_le_mul_right 68 hi
    rw [Nat.succ_mul] at this; omega
  · have hlt := (List.getElem?_eq_some_iff.1 hx).1
    have hi2 : i = xs.length := by simp at hlt; omega
    subst hi2
    rw [List.getElem?_append_right (Nat.le_refl _)] at hx
    simp at hx
    subst hx
    have g : ∀ {j u}, es[j]? = some u → (over cs (xs.length * 68) es)[xs.length * 68 + j]? = some u := fun {j u} h => by
      rw [over_in ho (List.getElem?_eq_some_iff.1 h).1]; exact h
    have hf := hy.f
    have hb := hy.b
    have hi := hy.i
    have hd := hy.d
    rw [Nat.zero_add] at hb hi hd
    exact ⟨by rw [over_length ho]; omega, g hf, g hb, g hi, hy.n16, fun r v h => by have := hy.rk r v h; rw [Nat.zero_add] at this; have := g this; rwa [show xs.length * 68 + (3 + r * 3) = xs.length * 68 + 3 + r * 3 by omega] at this,
      fun r v h => by have := hy.rn r v h; rw [Nat.zero_add] at this; have := g this; rwa [show xs.length * 68 + (3 + r * 3 + 1) = xs.length * 68 + 3 + r * 3 + 1 by omega] at this,
      fun r v h => by have := hy.rt r v h; rw [Nat.zero_add] at this; have := g this; rwa [show xs.length * 68 + (3 + r * 3 + 2) = xs.length * 68 + 3 + r * 3 + 2 by omega] at this, g hd⟩

/-- A frame's cells before anything is set. -/
abbrev frm0 (g dst : Int) : List V := [i64 g, i64 0, i64 0] ++ (List.replicate 16 [i64 0, i64 0, bo false]).flatten ++ List.replicate 16 (bo false) ++ [i64 dst]
theorem frm0_at (g dst : Int) : FrAt (frm0 g dst) 0 ⟨⟨g, 0, 0⟩, List.replicate 16 ⟨0, 0, false⟩, dst⟩ := by
  have hr : ∀ (r : Nat) v, (List.replicate 16 (⟨0, 0, false⟩ : Val))[r]? = some v → r < 16 ∧ v = ⟨0, 0, false⟩ := fun r v h => by
    rw [List.getElem?_replicate] at h
    split at h
    · rename_i h1; cases h; exact ⟨h1, rfl⟩
    · cases h
  refine ⟨by show 0 + 68 ≤ 68; decide, rfl, rfl, rfl, rfl, ?_, ?_, ?_, rfl⟩
  all_goals
    intro r v h
    obtain ⟨h1, rfl⟩ := hr r v h
    rcases (by omega : r = 0 ∨ r = 1 ∨ r = 2 ∨ r = 3 ∨ r = 4 ∨ r = 5 ∨ r = 6 ∨ r = 7 ∨ r = 8 ∨ r = 9 ∨ r = 10 ∨ r = 11 ∨ r = 12 ∨ r = 13 ∨ r = 14 ∨ r = 15) with rfl | rfl | rfl | rfl | rfl | rfl | rfl | rfl | rfl | rfl | rfl | rfl | rfl | rfl | rfl | rfl <;> rfl
theorem frm0_all (g dst : Int) : (frm0 g dst).all Fw.one = true := by rfl
theorem frm0_fill (g dst : Int) : fillA [(i64 0), (i64 0), (i64 0), (i64 0), (i64 0), (bo false), (i64 0), (i64 0), (bo false), (i64 0), (i64 0), (bo false), (i64 0), (i64 0), (bo false), (i64 0), (i64 0), (bo false), (i64 0), (i64 0), (bo false), (i64 0), (i64 0), (bo false), (i64 0), (i64 0), (bo false), (i64 0), (i64 0), (bo false), (i64 0), (i64 0), (bo false), (i64 0), (i64 0), (bo false), (i64 0), (i64 0), (bo false), (i64 0), (i64 0), (bo false), (i64 0), (i64 0), (bo false), (i64 0), (i64 0), (bo false), (i64 0), (i64 0), (bo false), (bo false), (bo false), (bo false), (bo false), (bo false), (bo false), (bo false), (bo false), (bo false), (bo false), (bo false), (bo false), (bo false), (bo false), (bo false), (bo false), (i64 0)] [⟨0, 3, true, .agg #[i64 g, i64 0, i64 0]⟩, ⟨67, 1, false, i64 dst⟩] = some (frm0 g dst) := by rfl

theorem fill_whole {z ec : List V} {s : Nat} (hz : z.length = s) (hl : ec.length = s) : fillA z [(0, s, true, .agg ec.toArray)] = some ec := by
  have ho : over z 0 ec = ec := by unfold over; simp [hz, hl]
  unfold fillA
  dsimp only
  rw [if_pos (by simp [hz, hl])]
  show fillA (over z 0 ec) [] = some ec
  rw [ho]; rfl
/-- The first arguments, then nothing. -/
def regsOf (vals : List Val) : List Val := vals ++ List.replicate (16 - vals.length) ⟨0, 0, false⟩

theorem regsOf_set {vals : List Val} {i : Nat} {v : Val} (hv : vals[i]? = some v) (hl : vals.length ≤ 16) : (regsOf (vals.take i)).set i v = regsOf (vals.take (i + 1)) := by
  have hi := (List.getElem?_eq_some_iff.1 hv).1
  have h1 : (vals.take i).length = i := by rw [List.length_take]; omega
  have h2 : (vals.take (i + 1)).length = i + 1 := by rw [List.length_take]; omega
  unfold regsOf
  rw [h1, h2, List.set_append_right _ _ (by omega), h1, Nat.sub_self, List.take_add_one, hv, show 16 - i = (16 - (i + 1)) + 1 by omega, List.replicate_succ, List.set_cons_zero]
  simp
theorem cl_call' {ρ : Rl} {bp bM : Nat} {M : Mc} {g dst : Int} {B : Nat → Prop} {va : V} {vals : List Val} (m : MA ρ h bp bM M) (hs : M.fs.length < 1000) (sv : Sl h B 3 V3 va vals) (hB : ∀ b, B b → b < n ∧ ρ b = .no) (hv : vals.length ≤ 16) (hF : 1000 < F) (f : Fr n h) (hf : ∀ b, n ≤ b → ρ b = .no)
    (k1 : 60 ≤ M.fs.length → Wp (K (i64 6)) n h Q)
    (k2 : M.fs.length < 60 → ∀ ρ' n' h', Mv ρ n h ρ' n' h' → MA ρ' h' bp bM { M with fs := M.fs ++ [⟨⟨g, 0, 0⟩, regsOf vals, dst⟩], called := g } → Wp (K (i64 0)) n' h' Q) : Wp (cl (R14_Machine_call F (pt bM 0) (i64 g) va (i64 dst)) K) n h Q := by
  obtain ⟨bF, cF, cs, kd, vH, vO, m⟩ := m
  let R : Post := fun w n' h' => (w = i64 6 ∧ 60 ≤ M.fs.length ∧ n' = n ∧ h' = h) ∨ (w = i64 0 ∧ M.fs.length < 60 ∧ ∃ ρ', Mv ρ n h ρ' n' h' ∧ MA ρ' h' bp bM { M with fs := M.fs ++ [⟨⟨g, 0, 0⟩, regsOf vals, dst⟩], called := g })
  refine Wp.cl (R := R) ?_ (by
    rintro w n' h' (⟨rfl, h1, rfl, rfl⟩ | ⟨rfl, h0, ρ', h1, h2⟩)
    · exact k1 h1
    · exact k2 h0 _ _ _ h1 h2)
  unfold R14_Machine_call
  simp only [wpS.1, wpS.2.1, wpS.2.2.1, wpS.2.2.2.2, wpM.1, m.get, ldv_own, Nat.zero_add, List.getElem?_cons_succ, List.getElem?_cons_zero, Option.some.injEq, exists_eq_left', decide_eq_true_eq, decide_eq_false_iff_not]
  refine ⟨fun h1 => .inl ⟨rfl, by omega, rfl, rfl⟩, fun h1 => ?_⟩
  refine Wp.buildI.2 ⟨[i64 g, i64 0, i64 0], by simp [fillA, over, oneS], ?_⟩
  refine Wp.buildI.2 ⟨frm0 g dst, frm0_fill g dst, ?_⟩
  refine Wp.put (cs := frm0 g dst) f (by rfl) (frm0_all g dst) rfl rfl ?_
  have e0 := ((Ev.start f).new ⟨[(i64 0), (i64 0), (i64 0), (i64 0), (i64 0), (bo false), (i64 0), (i64 0), (bo false), (i64 0), (i64 0), (bo false), (i64 0), (i64 0), (bo false), (i64 0), (i64 0), (bo false), (i64 0), (i64 0), (bo false), (i64 0), (i64 0), (bo false), (i64 0), (i64 0), (bo false), (i64 0), (i64 0), (bo false), (i64 0), (i64 0), (bo false), (i64 0), (i64 0), (bo false), (i64 0), (i64 0), (bo false), (i64 0), (i64 0), (bo false), (i64 0), (i64 0), (bo false), (i64 0), (i64 0), (bo false), (i64 0), (i64 0), (bo false), (bo false), (bo false), (bo false), (bo false), (bo false), (bo false), (bo false), (bo false), (bo false), (bo false), (bo false), (bo false), (bo false), (bo false), (bo false), (bo false), (i64 0)], .own⟩).set (b := n) ⟨frm0 g dst, .own⟩ (by omega) (by omega)
  generalize hh0 : (h.set n ⟨_, .own⟩).set n ⟨frm0 g dst, .own⟩ = h0 at e0 ⊢
  have g0 : h0.get n = some ⟨frm0 g dst, .own⟩ := by rw [← hh0, H.get_set_same]
  have hlt := m.lt f
  have mv0 := (Mv.refl f hf).ev e0
  refine Wp.jn (fun j => ∀ h' ec, Ev No n h (n + 1) h' → h'.get n = some ⟨ec, .own⟩ → ec.all Fw.one = true → ec.length = 68 → FrAt ec 0 ⟨⟨g, 0, 0⟩, regsOf vals, dst⟩ → Wp (j (pt bM 0) (i64 g) (pt n 0)) (n + 1) h' R) ?_ fun j hj => ?_
  case refine_1 =>
    intro h' ec e' g' ec1 ecl fr
    have m' := m.ev f e'
    have mv' := (Mv.refl f hf).ev e'
    simp only [wpS.1, wpS.2.1, wpS.2.2.1, wpS.2.2.2.2, wpM.1, m'.get, ldv_own, Nat.zero_add, List.getElem?_cons_succ, List.getElem?_cons_zero, Option.some.injEq, exists_eq_left']
    refine Wp.loadNI.2 ?_
    rw [g']
    refine ⟨by omega, ?_⟩
    rw [List.drop_zero, List.take_of_length_le (by omega)]
    refine (Wp.buildSliceI e'.f).2 ⟨ec, ?_, ec1, ?_⟩
    · exact fill_whole rfl ecl
    have e2 := e'.new ⟨ec, .own⟩
    have m2 := m'.ev e'.f ((Ev.start e'.f).new ⟨ec, .own⟩)
    have mv2 := mv'.ev ((Ev.start e'.f).new ⟨ec, .own⟩)
    have g2 : (h'.set (n + 1) ⟨ec, .own⟩).get (n + 1) = some ⟨ec, .own⟩ := H.get_set_same _ _ _
    generalize h'.set (n + 1) ⟨ec, .own⟩ = h2 at e2 m2 mv2 g2
    have hc : Cel h2 68 (sl (n + 1) 0 1 1) 1 ec := ⟨by omega, .inr ⟨n + 1, 0, 1, rfl, fun _ => ⟨ec, .own, g2, by decide, by omega, by rw [List.drop_zero, List.take_of_length_le (by omega)]⟩⟩⟩
    -- what stands at the end
    have fin : ∀ {ρ' n' h3 b' cs' kd'}, Mv ρ n h ρ' n' h3 → ρ' bM = .mach → h3.get bM = some ⟨mcC bp (sl bF 0 M.fs.length cF) vH vO M, .own⟩ → FsAt ρ' h3 b' (U + 68) cs' kd' (M.fs ++ [⟨⟨g, 0, 0⟩, regsOf vals, dst⟩]) → HpAt ρ' h3 vH M.hp → OrAt ρ' h3 vO M.os → bM ≠ b' →
        Wp (kFieldAddr 1 (pt bM 0) fun v20 => kStore v20 (sl b' 0 (M.fs.length + 1) (U + 68)) fun _ => kNil (pt bM 0) fun v22 => kFieldAddr 5 v22 fun v23 => kStore v23 (i64 g) fun _ => ret (i64 0)) n' h3 R := by
      intro ρ' n' h3 b' cs' kd' mv3 r3 g3 f3 hp3 or3 hne
      have hbM : bM < n' := mv3.f.lt g3
      simp only [wpS.1, wpS.2.1, wpS.2.2.1, wpS.2.2.2.2, Nat.zero_add]
      rw [st1W g3 (.inl rfl) (by simp) rfl]
      simp only [wpS.1, wpS.2.1, wpS.2.2.1, wpS.2.2.2.2, Nat.zero_add]
      rw [st1W (H.get_set_same _ _ _) (.inl rfl) (by simp) rfl]
      refine Wp.retI.2 (.inr ⟨rfl, by omega, ρ', (mv3.set _ hbM (fun h => by rw [← mv3.role _ h, r3]; simp)).set _ hbM (fun h => by rw [← mv3.role _ h, r3]; simp), b', U + 68, cs', kd', vH, vO, r3, ?_, ?_, ?_, ?_⟩)
      · rw [H.get_set_same]; simp
      · exact ⟨f3.role, by rw [H.get_set_ne _ _ (fun q => hne q.symm), H.get_set_ne _ _ (fun q => hne q.symm)]; exact f3.get, f3.one, f3.kind, f3.len, f3.own, f3.mul, f3.own1, f3.each⟩
      · refine hp3.keep fun b hb _ => ⟨rfl, ?_⟩
        have : b ≠ bM := by rintro rfl; rw [r3] at hb; simp at hb
        rw [H.get_set_ne _ _ this, H.get_set_ne _ _ this]
      · refine or3.keep mv3.f fun b hb _ => ⟨rfl, ?_⟩
        have : b ≠ bM := by rintro rfl; rw [r3] at hb; simp at hb
        rw [H.get_set_ne _ _ this, H.get_set_ne _ _ this]
    have hbF := m2.lt e2.f
    have hneM : bM ≠ bF := fun q => by have := m.role; rw [q, m.fs.role] at this; cases this
    refine Wp.appStack m2.fs.get m2.fs.kind m2.fs.len m2.fs.mul m2.fs.own (by decide) hc e2.f m2.fs.one ec1 ⟨by omega, by decide⟩ (fun h3 f3 g3 hl3 k3 => ?_) (fun hkd hroom => ?_)
    · have hρ : ∀ b, b < n + 1 + 1 → (ρ.put (n + 1 + 1) .frm) b = ρ b := fun b hb => Rl.put_ne (by omega)
      have mv3 : Mv ρ n h (ρ.put (n + 1 + 1) .frm) (n + 1 + 1 + 1) h3 := ⟨by omega, f3, fun b hb => hρ b (by omega), fun b hb hno => by
        rw [k3 b (by omega) (fun q => by rw [q, m.fs.role] at hno; cases hno)]
        exact mv2.same b hb hno, fun b hb => by rw [Rl.put_ne (by omega)]; exact hf b (by omega)⟩
      refine fin (b' := n + 1 + 1) mv3 (by rw [hρ _ (by omega)]; exact m.role) (by rw [k3 _ (by omega) hneM]; exact m2.get) (m2.fs.pushA hl3 g3 fr ecl ec1) (m2.hp.keep fun b hb hs => ?_) (m2.os.keep e2.f fun b hb hs => ?_) (by omega)
      · have hb2 : b < n + 1 + 1 := by
          rcases Nat.lt_or_ge b (n + 1 + 1) with h | h
          · exact h
          · rw [e2.f b h] at hs; cases hs
        exact ⟨hρ b hb2, k3 b hb2 (fun q => by rw [q, m.fs.role] at hb; simp at hb)⟩
      · exact ⟨hρ b hs, k3 b hs (fun q => by rw [q, m.fs.role] at hb; simp at hb)⟩
    · subst hkd
      have mv3 := mv2.set (c := bF) ⟨over cs (M.fs.length * 68) ec, .grow⟩ (by omega) (fun h => by rw [m.fs.role]; simp)
      refine fin (b' := bF) mv3 m.role (by rw [H.get_set_ne _ _ hneM]; exact m2.get) (m2.fs.pushB hroom (H.get_set_same _ _ _) fr ecl ec1) (m2.hp.keep fun b hb hs => ⟨rfl, H.get_set_ne _ _ (fun q => by rw [q, m.fs.role] at hb; simp at hb)⟩) (m2.os.keep e2.f fun b hb hs => ⟨rfl, H.get_set_ne _ _ (fun q => by rw [q, m.fs.role] at hb; simp at hb)⟩) hneM
  refine Wp.loop5 (fun d x0 x1 x2 x3 x4 n' h' => n' = n + 1 ∧ x0 = pt bM 0 ∧ x1 = i64 g ∧ x2 = va ∧ x3 = pt n 0 ∧ ∃ (i : Nat) (ec : List V), x4 = i64 (i : Int) ∧ i + d = vals.length ∧ Ev No n h (n + 1) h' ∧ h'.get n = some ⟨ec, .own⟩ ∧ ec.all Fw.one = true ∧ ec.length = 68 ∧ FrAt ec 0 ⟨⟨g, 0, 0⟩, regsOf (vals.take i), dst⟩) ?_ (d := vals.length) ⟨rfl, rfl, rfl, rfl, rfl, 0, _, rfl, by omega, e0, g0, frm0_all g dst, rfl, by rw [List.take_zero]; exact frm0_at g dst⟩ (by omega)
  rintro d _ _ va _ _ _ h1' rec ⟨rfl, rfl, rfl, rfl, rfl, i, ec, rfl, hi, e1, g1, ec1, ecl, fr⟩ hr
  have wi := wrap_succ (show i < 9223372036854775807 by omega)
  have sv1 := sv.keep (h' := h1') (B' := B) (fun _ h => h) (fun b hb => e1.no (hB b hb).1) fun _ _ h => h
  simp only [wpS.1, wpS.2.1, wpS.2.2.1, wpS.2.2.2.2, sv1.len, decide_eq_true_eq, decide_eq_false_iff_not]
  refine ⟨fun hlt2 => ?_, fun hge => hj _ _ e1 g1 ec1 ecl (by rw [List.take_of_length_le (by omega)] at fr; exact fr)⟩
  obtain ⟨v, hvi, _⟩ := Sl.get (show i < vals.length by omega)
  obtain ⟨b3, o3, cs3, kd3, _, hix3, hb3, hk3, rfl, hcs3, _⟩ := sv1.at hvi
  have c0 : cs3[o3]? = _ := hcs3 0 _ rfl
  have c1 := hcs3 1 _ rfl
  have c2 := hcs3 2 _ rfl
  rw [hix3, ld3W hb3 hk3 c0 c1 c2]
  simp only [wpS.1, wpS.2.1, wpS.2.2.1, wpS.2.2.2.2]
  rw [ixA (show i < 16 by omega), stNW (s := 3) (vs := valC v) g1 (.inl rfl) rfl (by omega) (by simp [oneS])]
  simp only [wpS.1, wpS.2.1, wpS.2.2.1, wpS.2.2.2.2]
  have hol : (over ec (0 + 3 + i * 3) (valC v)).length = ec.length := over_length (by simp; omega)
  rw [ixA (show i < 16 by omega), st1W (H.get_set_same _ _ _) (.inl rfl) (by rw [hol]; omega) rfl]
  simp only [wpS, wi]
  have fr' := fr.setReg (v := v) (show i < 16 by omega)
  refine hr (d - 1) _ _ _ _ _ _ _ (by omega) ⟨rfl, rfl, rfl, rfl, rfl, i + 1, _, rfl, by omega, (e1.set _ (by omega) (by omega)).set _ (by omega) (by omega), H.get_set_same _ _ _, set_all (over_all ec1 (by simp [oneS])) rfl, by rw [List.length_set, hol, ecl], ?_⟩
  rw [← regsOf_set hvi hv]
  exact fr'
end Go.Fn
end
section
set_option linter.unusedVariables false
namespace Go.Fn
open Go Go.Fw

variable {F n : Nat} {h : H} {Q : Post} {K : V → St}

/-- Where a frame stands is written. -/
theorem FrAt.setAt {cs : List V} {o : Nat} {x : Frm} {q : Pt} (a : FrAt cs o x) : FrAt (over cs o [i64 q.f, i64 q.b, i64 q.i]) o { x with at_ := q } := by
  have hl := a.len
  have ho : o + [i64 q.f, i64 q.b, i64 q.i].length ≤ cs.length := by simp; omega
  have g : ∀ {j}, o + 3 ≤ j → (over cs o [i64 q.f, i64 q.b, i64 q.i])[j]? = cs[j]? := fun {j} h1 => over_out ho (.inr (by simpa using h1))
  have w : ∀ {k}, k < 3 → (over cs o [i64 q.f, i64 q.b, i64 q.i])[o + k]? = [i64 q.f, i64 q.b, i64 q.i][k]? := fun {k} hk => over_in ho (by simpa using hk)
  exact ⟨by rw [over_length ho]; exact hl, w (k := 0) (by omega), w (k := 1) (by omega), w (k := 2) (by omega), a.n16, fun r v h => by rw [g (by omega)]; exact a.rk r v h, fun r v h => by rw [g (by omega)]; exact a.rn r v h, fun r v h => by rw [g (by omega)]; exact a.rt r v h, by rw [g (by omega)]; exact a.d⟩
theorem FrAt.setB {cs : List V} {o : Nat} {x : Frm} {z : Int} (a : FrAt cs o x) : FrAt (cs.set (o + 1) (i64 z)) o { x with at_ := { x.at_ with b := z } } := by
  have hl := a.len
  have g : ∀ {j}, j ≠ o + 1 → (cs.set (o + 1) (i64 z))[j]? = cs[j]? := fun {j} h1 => List.getElem?_set_ne (fun q => h1 q.symm)
  exact ⟨by rw [List.length_set]; exact hl, by rw [g (by omega)]; exact a.f, by rw [List.getElem?_set_self (by omega)], by rw [g (by omega)]; exact a.i, a.n16, fun r v h => by rw [g (by omega)]; exact a.rk r v h, fun r v h => by rw [g (by omega)]; exact a.rn r v h, fun r v h => by rw [g (by omega)]; exact a.rt r v h, by rw [g (by omega)]; exact a.d⟩
theorem FrAt.setI {cs : List V} {o : Nat} {x : Frm} {z : Int} (a : FrAt cs o x) : FrAt (cs.set (o + 2) (i64 z)) o { x with at_ := { x.at_ with i := z } } := by
  have hl := a.len
  have g : ∀ {j}, j ≠ o + 2 → (cs.set (o + 2) (i64 z))[j]? = cs[j]? := fun {j} h1 => List.getElem?_set_ne (fun q => h1 q.symm)
  exact ⟨by rw [List.length_set]; exact hl, by rw [g (by omega)]; exact a.f, by rw [g (by omega)]; exact a.b, by rw [List.getElem?_set_self (by omega)], a.n16, fun r v h => by rw [g (by omega)]; exact a.rk r v h, fun r v h => by rw [g (by omega)]; exact a.rn r v h, fun r v h => by rw [g (by omega)]; exact a.rt r v h, by rw [g (by omega)]; exact a.d⟩
theorem FsAt.pop {ρ : Rl} {b c : Nat} {cs : List V} {kd : Kind} {xs : List Frm} {y : Frm} (a : FsAt ρ h b c cs kd (xs ++ [y])) (h0 : xs ≠ []) : FsAt ρ h b c cs kd xs := by
  have hg : kd = .grow := by
    rcases a.kind with ⟨h1, _⟩ | ⟨h1, _⟩
    · exact h1
    · have := a.own1 h1
      simp at this; exact absurd this h0
  subst hg
  have hk : c = U + 68 := by
    rcases a.kind with ⟨_, h1⟩ | ⟨h1, _⟩
    · exact h1
    · cases h1
  have := a.len
  rw [List.length_append, Nat.add_mul] at this
  exact ⟨a.role, a.get, a.one, .inl ⟨rfl, hk⟩, by omega, fun q => (by cases q), a.mul, fun q => (by cases q), fun i x hx => a.each i x (by rw [List.getElem?_append_left (List.getElem?_eq_some_iff.1 hx).1]; exact hx)⟩

/-- A cell of the machine's own is written. -/
theorem MM.cell {ρ : Rl} {h' : H} {bp bM : Nat} {M M' : Mc} {bF cF : Nat} {cs : List V} {kd : Kind} {vH vO vH' vO' : V} (m : MM ρ h bp bM M bF cF cs kd vH vO) (f : Fr n h) (hg : h'.get bM = some ⟨mcC bp (sl bF 0 M'.fs.length cF) vH' vO' M', .own⟩) (hh : ∀ c, c ≠ bM → h'.get c = h.get c) (h1 : FsAt ρ h bF cF cs kd M'.fs) (h2 : HpAt ρ h vH' M'.hp) (h3 : OrAt ρ h vO' M'.os) : MM ρ h' bp bM M' bF cF cs kd vH' vO' := by
  have hne : ∀ {b}, ρ b ≠ .mach → b ≠ bM := fun {b} hb e => hb (by rw [e]; exact m.role)
  exact ⟨m.role, hg, ⟨h1.role, by rw [hh _ (hne (by rw [h1.role]; simp))]; exact h1.get, h1.one, h1.kind, h1.len, h1.own, h1.mul, h1.own1, h1.each⟩, h2.keep fun b hb hs => ⟨rfl, hh _ (hne (by rcases hb with hb | ⟨k, hb⟩ <;> rw [hb] <;> simp))⟩, h3.keep f fun b hb hs => ⟨rfl, hh _ (hne (by rw [hb]; simp))⟩⟩

theorem slc_hi {s b o l c k : Nat} (hk : k ≤ l) (hc : c = U + s ∨ c < U) : Wp (kSlice s (sl b o l c) none (some (i64 (k : Int))) none K) n h Q ↔ Wp (K (sl b o k c)) n h Q := by
  have es : opSlice s (sl b o l c) none (some (i64 (k : Int))) none = Fw.ret (sl b o k c) := by
    show (if (0 : Int) ≤ 0 ∧ (0 : Int) ≤ (k : Int) then (if (k : Int) ≤ (l : Int) then (if c = U + s then Fw.ret (sl b (o + (0 : Int).toNat * s) ((k : Int) - 0).toNat c) else if c < U then Fw.ret (sl b (o + (0 : Int).toNat * s) ((k : Int) - 0).toNat (c - (0 : Int).toNat)) else fail) else fail) else fail) = _
    rw [if_pos (by omega), if_pos (by omega)]
    have e1 : ((k : Int) - 0).toNat = k := by omega
    have e2 : o + (0 : Int).toNat * s = o := by simp
    have e3 : c - (0 : Int).toNat = c := by simp
    rw [e1, e2, e3]
    rcases hc with rfl | hc
    · rw [if_pos rfl]
    · by_cases h1 : c = U + s
      · rw [if_pos h1]
      · rw [if_neg h1, if_pos hc]
  exact Wp.eq (by show bnd (opSlice s (sl b o l c) none (some (i64 (k : Int))) none) K = _; rw [es]; rfl)

/-- What a block's end does. -/
def EndsR (M M' : Mc) (low : List Frm) (x : Frm) (bl : Blo) : Prop :=
  (M'.hp = M.hp ∧ M'.os = M.os ∧ M'.ended = M.ended ∧ M'.called = M.called) ∧
  ((∃ t, M'.fs = low ++ [{ x with at_ := ⟨x.at_.f, t, 0⟩ }] ∧ t ∈ outsP bl) ∨
   ∃ l y v, low = l ++ [y] ∧ M'.fs = l ++ [{ y with rs := y.rs.set x.dst.toNat v }] ∧ bl.fin = 3 ∧ getI x.rs bl.reg = some v)

theorem ends_wp {ρ : Rl} {bp bM : Nat} {M : Mc} {low : List Frm} {x : Frm} {bl : Blo} {vc : V} {fn : Fun} (m : MA ρ h bp bM M) (hM : M.fs = low ++ [x]) (hs : low.length < 1000) (ok : EndOk fn bl) (hr16 : fn.regs.length ≤ 16) (hd : low ≠ [] → 0 ≤ x.dst ∧ x.dst < 16) (hvc : one vc = true) (f : Fr n h) (hf : ∀ b, n ≤ b → ρ b = .no)
    (k0 : ∀ n' h' M', Mv ρ n h ρ n' h' → MA ρ h' bp bM M' → EndsR M M' low x bl → Q (i64 0) n' h')
    (k4 : ∀ n' h' M', Mv ρ n h ρ n' h' → MA ρ h' bp bM M' → Q (i64 4) n' h') : Wp (R14_Machine_ends F (pt bM 0) (bloV bl vc)) n h Q := by
  obtain ⟨bF, cF, cs, kd, vH, vO, m⟩ := m
  unfold R14_Machine_ends
  refine (Wp.boxNI f).2 ⟨by simp [oneS, hvc], ?_⟩
  have e0 := (Ev.start f).new ⟨[vc, i64 bl.fin, i64 bl.reg, i64 bl.to, i64 bl.els], .own⟩
  have mv0 := (Mv.refl f hf).ev e0
  have m0 := m.ev f e0
  have g0 : (h.set n ⟨[vc, i64 bl.fin, i64 bl.reg, i64 bl.to, i64 bl.els], .own⟩).get n = some ⟨[vc, i64 bl.fin, i64 bl.reg, i64 bl.to, i64 bl.els], .own⟩ := H.get_set_same _ _ _
  have hbF : bF < n := (m.lt f).2
  have hbM : bM < n := (m.lt f).1
  simp only [List.toList_toArray]
  generalize h.set n ⟨[vc, i64 bl.fin, i64 bl.reg, i64 bl.to, i64 bl.els], .own⟩ = h0 at e0 mv0 m0 g0
  have hl : M.fs.length = low.length + 1 := by rw [hM]; simp
  refine (cl_top m0 hl hs).2 ?_
  have top := m0.fs.each low.length x (by rw [hM]; simp)
  have hlen := top.len
  have n16 := top.n16
  have hsetf : ∀ y, M.fs.set low.length y = low ++ [y] := fun y => by rw [hM]; simp
  have hneMF : bM ≠ bF := fun q => by have := m.role; rw [q, m.fs.role] at this; cases this
  have hroleF : ∀ (_ : bF < n), ρ bF ≠ .no := fun _ => by rw [m.fs.role]; simp
  -- a frame that only stands elsewhere
  have moved : ∀ (t : Int) (cs' : List V) h', t ∈ outsP bl → h'.get bF = some ⟨cs', kd⟩ → (∀ c, c ≠ bF → h'.get c = h0.get c) → cs'.length = cs.length → cs'.all Fw.one = true → (∀ j, j < low.length * 68 ∨ low.length * 68 + 68 ≤ j → cs'[j]? = cs[j]?) → FrAt cs' (low.length * 68) { x with at_ := ⟨x.at_.f, t, 0⟩ } → Mv ρ n h ρ (n + 1) h' → Q (i64 0) (n + 1) h' := fun t cs' h' ht g1 n1 hl' h1' hk hfr mv => by
    have hup := m0.fs.upd g1 hl' h1' (by omega) hk hfr
    rw [hsetf] at hup
    exact k0 _ _ { M with fs := low ++ [{ x with at_ := ⟨x.at_.f, t, 0⟩ }] } mv ⟨bF, cF, cs', kd, vH, vO, m0.frames mv0.f (fun c _ hc => n1 c hc) (by simp [hl]) hup⟩ ⟨⟨rfl, rfl, rfl, rfl⟩, .inl ⟨t, rfl, ht⟩⟩
  by_cases f1 : bl.fin = 1
  · simp [wpS, wpM.1, g0, ldv_own, f1, m0.fs.get, ldv_live m0.live, top.f]
    refine Wp.buildI.2 ⟨[i64 x.at_.f, i64 bl.to, i64 0], by simp [fillA, oneS], ?_⟩
    simp only [wpS.1, wpS.2.1, wpS.2.2.1, wpS.2.2.2.2, Nat.add_zero]
    rw [stNW (s := 3) (vs := [i64 x.at_.f, i64 bl.to, i64 0]) m0.fs.get m0.fs.wr rfl (by omega) (by simp [oneS])]
    refine Wp.retI.2 (moved bl.to _ _ (by simp [outsP, f1]) (H.get_set_same _ _ _) (fun c hc => H.get_set_ne _ _ hc) (over_length (by simp; omega)) (over_all m0.fs.one (by simp [oneS])) (fun j hj => over_out (by simp; omega) (by simp; omega)) (top.setAt (q := ⟨x.at_.f, bl.to, 0⟩)) (mv0.set _ (by omega) hroleF))
  have hreg : 0 ≤ bl.reg ∧ bl.reg < (fn.regs.length : Int) := by
    rcases ok with h | h | h
    · omega
    · exact h.2.1
    · exact h.2
  obtain ⟨kr, hkr⟩ : ∃ k : Nat, bl.reg = k := ⟨bl.reg.toNat, by omega⟩
  have hkr16 : kr < 16 := by omega
  obtain ⟨v, hv⟩ : ∃ v, x.rs[kr]? = some v := ⟨x.rs[kr]'(by omega), List.getElem?_eq_getElem _⟩
  obtain ⟨c0, c1, c2⟩ := top.ld hv
  by_cases f2 : bl.fin = 2
  · simp [wpS, wpM.1, g0, ldv_own, f2, m0.fs.get, ldv_live m0.live, top.f]
    refine Wp.buildI.2 ⟨[i64 x.at_.f, i64 bl.els, i64 0], by simp [fillA, oneS], ?_⟩
    simp only [wpS.1, wpS.2.1, wpS.2.2.1, wpS.2.2.2.2, Nat.add_zero]
    rw [stNW (s := 3) (vs := [i64 x.at_.f, i64 bl.els, i64 0]) m0.fs.get m0.fs.wr rfl (by omega) (by simp [oneS])]
    have hcs1 : (over cs (low.length * 68) [i64 x.at_.f, i64 bl.els, i64 0]).length = cs.length := over_length (by simp; omega)
    have top1 := top.setAt (q := ⟨x.at_.f, bl.els, 0⟩)
    have hone1 := over_all (o := low.length * 68) (vs := [i64 x.at_.f, i64 bl.els, i64 0]) m0.fs.one (by simp [oneS])
    have hout1 : ∀ j, j < low.length * 68 ∨ low.length * 68 + 68 ≤ j → (over cs (low.length * 68) [i64 x.at_.f, i64 bl.els, i64 0])[j]? = cs[j]? := fun j hj => over_out (by simp; omega) (by simp; omega)
    have g1 : (h0.set bF ⟨over cs (low.length * 68) [i64 x.at_.f, i64 bl.els, i64 0], kd⟩).get bF = some ⟨over cs (low.length * 68) [i64 x.at_.f, i64 bl.els, i64 0], kd⟩ := H.get_set_same _ _ _
    have n1 : ∀ c, c ≠ bF → (h0.set bF ⟨over cs (low.length * 68) [i64 x.at_.f, i64 bl.els, i64 0], kd⟩).get c = h0.get c := fun c hc => H.get_set_ne _ _ hc
    have mv1 := mv0.set (c := bF) ⟨over cs (low.length * 68) [i64 x.at_.f, i64 bl.els, i64 0], kd⟩ (by omega) hroleF
    generalize over cs (low.length * 68) [i64 x.at_.f, i64 bl.els, i64 0] = cs1 at hcs1 top1 hone1 hout1 g1 n1 mv1 ⊢
    generalize h0.set bF ⟨cs1, kd⟩ = h1 at g1 n1 mv1 ⊢
    have g01 : h1.get n = some ⟨[vc, i64 bl.fin, i64 bl.reg, i64 bl.to, i64 bl.els], .own⟩ := by rw [n1 _ (by omega), g0]
    obtain ⟨d0, d1, d2⟩ := top1.ld hv
    simp only [wpS.1, wpS.2.1, wpS.2.2.1, wpS.2.2.2.2, wpM.1, g01, ldv_own, Nat.zero_add, List.getElem?_cons_succ, List.getElem?_cons_zero, Option.some.injEq, exists_eq_left']
    rw [hkr, ixA hkr16]
    simp only [wpS.1, wpS.2.1, wpS.2.2.1, wpS.2.2.2.2]
    rw [ldW g1 m0.live d1]
    simp only [wpS.1, wpS.2.1, wpS.2.2.1, wpS.2.2.2.2, wpM.1, g01, ldv_own, Nat.zero_add, List.getElem?_cons_succ, List.getElem?_cons_zero, Option.some.injEq, exists_eq_left']
    refine ⟨fun _ => ?_, fun _ => ?_⟩
    · rw [Nat.add_zero, st1W g1 m0.fs.wr (by omega) rfl]
      refine Wp.retI.2 (moved bl.to _ _ (by unfold outsP; rw [if_neg f1, if_pos f2]; split <;> simp) (H.get_set_same _ _ _) (fun c hc => by rw [H.get_set_ne _ _ hc, n1 c hc]) (by rw [List.length_set, hcs1]) (set_all hone1 rfl) (fun j hj => by rw [List.getElem?_set_ne (by omega), hout1 j hj]) (top1.setB (z := bl.to)) (mv1.set _ (by omega) hroleF))
    · exact (moved bl.els _ _ (by
        unfold outsP; rw [if_neg f1, if_pos f2]
        by_cases h9 : bl.els = bl.to
        · rw [if_neg (by simp [h9])]; simp [h9]
        · rw [if_pos h9]; simp) g1 n1 hcs1 hone1 hout1 top1 mv1)
  have f3 : bl.fin = 3 := by
    rcases ok with h | h | h
    · omega
    · omega
    · exact h.1
  simp only [wpS.1, wpS.2.1, wpS.2.2.1, wpS.2.2.2.2, wpM.1, g0, ldv_own, Nat.zero_add, List.getElem?_cons_succ, List.getElem?_cons_zero, Option.some.injEq, exists_eq_left', f3, decide_eq_true_eq, decide_eq_false_iff_not, jn]
  refine ⟨fun h => absurd h (by decide), fun _ => ⟨fun h => absurd h (by decide), fun _ => ?_⟩⟩
  rw [hkr, ixA hkr16, ld3W m0.fs.get m0.live c0 c1 c2]
  refine Wp.put (cs := valC v) mv0.f (by simp [oneS]) (by simp [oneS]) rfl rfl ?_
  have e1 := ((Ev.start mv0.f).new ⟨[i64 0, i64 0, bo false], .own⟩).set (b := n + 1) ⟨valC v, .own⟩ (by omega) (by omega)
  have g1 : ((h0.set (n + 1) ⟨[i64 0, i64 0, bo false], .own⟩).set (n + 1) ⟨valC v, .own⟩).get (n + 1) = some ⟨valC v, .own⟩ := H.get_set_same _ _ _
  generalize (h0.set (n + 1) ⟨[i64 0, i64 0, bo false], .own⟩).set (n + 1) ⟨valC v, .own⟩ = h1 at e1 g1 ⊢
  have mv1 := mv0.ev e1
  have m1 := m0.ev mv0.f e1
  have topd := (m1.fs.each low.length x (by rw [hM]; simp)).d
  simp only [wpS.1, wpS.2.1, wpS.2.2.1, wpS.2.2.2.2, wpM.1, m1.get, m1.fs.get, ldv_live m1.live, topd, hl, ldv_own, Nat.zero_add, List.getElem?_cons_succ, List.getElem?_cons_zero, Option.some.injEq, exists_eq_left', decide_eq_true_eq, decide_eq_false_iff_not]
  refine ⟨fun hone => ?_, fun hmore => ?_⟩
  · -- the last frame: the result
    rw [ld3W g1 (by decide) (by rfl) (by rfl) (by rfl)]
    simp only [wpS.1, wpS.2.1, wpS.2.2.1, wpS.2.2.2.2]
    rw [stNW (s := 3) (vs := valC v) m1.get (.inl rfl) rfl (by simp) (by simp [oneS])]
    refine Wp.retI.2 (k4 _ _ { M with res := v } (mv1.set _ (by omega) (fun _ => by rw [m.role]; simp)) ⟨bF, cF, cs, kd, vH, vO, m1.cell e1.f ?_ (fun c hc => H.get_set_ne _ _ hc) m1.fs m1.hp m1.os⟩)
    rw [H.get_set_same]; rfl
  · have hlow : low ≠ [] := by rintro rfl; exact hmore (by simp)
    obtain ⟨l, y, hly⟩ : ∃ l y, low = l ++ [y] := ⟨low.dropLast, low.getLast hlow, (List.dropLast_concat_getLast hlow).symm⟩
    obtain ⟨hd1, hd2⟩ := hd hlow
    obtain ⟨kdst, hkd⟩ : ∃ k : Nat, x.dst = k := ⟨x.dst.toNat, by omega⟩
    have hc68 : cF = U + 68 ∨ cF < U := by
      rcases m1.fs.kind with ⟨_, h⟩ | ⟨_, _, h⟩
      · exact .inl h
      · exact .inr h
    rw [wrap64 (by omega), show ((low.length + 1 : Nat) : Int) - 1 = (low.length : Int) by omega, slc_hi (by omega) hc68]
    simp only [wpS.1, wpS.2.1, wpS.2.2.1, wpS.2.2.2.2, Nat.zero_add]
    have gM := m1.get
    rw [st1W gM (.inl rfl) (by simp) rfl]
    have hm2 : MM ρ (h1.set bM ⟨(mcC bp (sl bF 0 M.fs.length cF) vH vO M).set 1 (sl bF 0 low.length cF), .own⟩) bp bM { M with fs := low } bF cF cs kd vH vO :=
      m1.cell e1.f (by rw [H.get_set_same]; rfl) (fun c hc => H.get_set_ne _ _ hc) (FsAt.pop (y := x) (by rw [← hM]; exact m1.fs) hlow) m1.hp m1.os
    have g2 : (h1.set bM ⟨(mcC bp (sl bF 0 M.fs.length cF) vH vO M).set 1 (sl bF 0 low.length cF), .own⟩).get (n + 1) = some ⟨valC v, .own⟩ := by rw [H.get_set_ne _ _ (by omega)]; exact g1
    have mv2 := mv1.set (c := bM) ⟨(mcC bp (sl bF 0 M.fs.length cF) vH vO M).set 1 (sl bF 0 low.length cF), .own⟩ (by omega) (fun _ => by rw [m.role]; simp)
    rw [ld3W g2 (by decide) (by rfl) (by rfl) (by rfl), hkd]
    refine cl_set (M := { M with fs := low }) ⟨bF, cF, cs, kd, vH, vO, hm2⟩ hly (by rw [hly] at hs; simp at hs; omega) mv2.f mv2.fresh (by omega) fun h3 mv3 ma3 => ?_
    refine Wp.retI.2 (k0 _ _ _ (mv2.trans mv3) ma3 ⟨⟨rfl, rfl, rfl, rfl⟩, .inr ⟨l, y, v, hly, by rw [hkd]; rfl, f3, by rw [hkr, getI_nat]; exact hv⟩⟩)
end Go.Fn
end
section
set_option linter.unusedVariables false
namespace Go.Fn
open Go Go.Fw

/-- A value goes with a type. -/
def VT (P : Pg) (hp : List Obj) (t : Ty) (v : Val) : Prop :=
  (v.k = 2 → ∃ (j : Nat) (o : Obj), v.n = (j : Int) + 1 ∧ hp[j]? = some o ∧ (t.1 = 3 ∨ t = (1, o.rec_))) ∧ (v.k = 3 → ∃ g, getI P.funcs v.n = some g ∧ t = (2, g.sig))
def FrOk (P : Pg) (hp : List Obj) (x : Frm) : Prop := ∃ fn, getI P.funcs x.at_.f = some fn ∧ PtOk P x.at_ ∧ x.rs.length = 16 ∧ ∀ (r : Nat) t v, fn.regs[r]? = some t → x.rs[r]? = some v → VT P hp t v
/-- A frame's result goes where one is awaited. -/
def Link (P : Pg) (x y : Frm) : Prop := ∃ fx fy s, getI P.funcs x.at_.f = some fx ∧ getI P.funcs y.at_.f = some fy ∧ getI P.sigs fy.sig = some s ∧ getI fx.regs y.dst = some s.res
def SiteOk (P : Pg) (s r : Int) : Prop := ∃ (a : Nat) (q : Pt) (c : Ins) (fn : Fun), s = (a : Int) ∧ (pointsP P)[a]? = some q ∧ codeP P q = some c ∧ c.op = 5 ∧ getI P.funcs q.f = some fn ∧ getI fn.regs c.dst = some (1, r)
def ObOk (P : Pg) (hp : List Obj) (o : Obj) : Prop := SiteOk P o.site o.rec_ ∧ ∃ rc, getI P.recs o.rec_ = some rc ∧ o.fs.length = rc.length ∧ ∀ (i : Nat) t v, rc[i]? = some t → o.fs[i]? = some v → VT P hp t v
/-- What always holds of a machine. -/
structure Inv (P : Pg) (M : Mc) : Prop where
  some_ : M.fs ≠ []
  flen : M.fs.length ≤ 60
  hlen : M.hp.length ≤ 400
  olen : M.os.length ≤ 1000
  frm : ∀ x ∈ M.fs, FrOk P M.hp x
  link : ∀ (i : Nat) x y, M.fs[i]? = some x → M.fs[i + 1]? = some y → Link P x y
  hp : ∀ o ∈ M.hp, ObOk P M.hp o

/-- The heap has grown, or changed within. -/
def HpLe (a b : List Obj) : Prop := ∀ (j : Nat) o, a[j]? = some o → ∃ o', b[j]? = some o' ∧ o'.rec_ = o.rec_
theorem HpLe.refl (a : List Obj) : HpLe a a := fun j o h => ⟨o, h, rfl⟩
theorem HpLe.app (a b : List Obj) : HpLe a (a ++ b) := fun j o h => ⟨o, by rw [List.getElem?_append_left (List.getElem?_eq_some_iff.1 h).1]; exact h, rfl⟩
theorem HpLe.set {a : List Obj} {j : Nat} {o o' : Obj} (h : a[j]? = some o) (hr : o'.rec_ = o.rec_) : HpLe a (a.set j o') := fun k x hx => by
  by_cases e : k = j
  · subst e
    rw [h] at hx; cases hx
    exact ⟨o', List.getElem?_set_self (List.getElem?_eq_some_iff.1 h).1, hr⟩
  · exact ⟨x, by rw [List.getElem?_set_ne (fun q => e q.symm)]; exact hx, rfl⟩
theorem VT.mono {P : Pg} {a b : List Obj} {t : Ty} {v : Val} (h : VT P a t v) (le : HpLe a b) : VT P b t v :=
  ⟨fun hk => by
    obtain ⟨j, o, h1, h2, h3⟩ := h.1 hk
    obtain ⟨o', h4, h5⟩ := le j o h2
    exact ⟨j, o', h1, h4, by rw [h5]; exact h3⟩, h.2⟩
theorem FrOk.mono {P : Pg} {a b : List Obj} {x : Frm} (h : FrOk P a x) (le : HpLe a b) : FrOk P b x := by
  obtain ⟨fn, h1, h2, h3, h4⟩ := h
  exact ⟨fn, h1, h2, h3, fun r t v h5 h6 => (h4 r t v h5 h6).mono le⟩
theorem ObOk.mono {P : Pg} {a b : List Obj} {o : Obj} (h : ObOk P a o) (le : HpLe a b) : ObOk P b o := by
  obtain ⟨h1, rc, h2, h3, h4⟩ := h
  exact ⟨h1, rc, h2, h3, fun i t v h5 h6 => (h4 i t v h5 h6).mono le⟩
theorem VT.num {P : Pg} {hp : List Obj} {t : Ty} {v : Val} (h2 : v.k ≠ 2) (h3 : v.k ≠ 3) : VT P hp t v := ⟨fun h => absurd h h2, fun h => absurd h h3⟩

theorem VT.low {P : Pg} {hp : List Obj} {t : Ty} {v : Val} (h : v.k = 0 ∨ v.k = 1) : VT P hp t v := VT.num (by omega) (by omega)

/-- A register gets a value that goes with its type. -/
theorem FrOk.set {P : Pg} {hp : List Obj} {x : Frm} {fn : Fun} {r : Nat} {t : Ty} {v : Val} (h : FrOk P hp x) (hf : getI P.funcs x.at_.f = some fn) (ht : fn.regs[r]? = some t) (hv : VT P hp t v) : FrOk P hp { x with rs := x.rs.set r v } := by
  obtain ⟨fn', h1, h2, h3, h4⟩ := h
  rw [hf] at h1; cases h1
  refine ⟨fn, hf, h2, by simp [h3], fun r' t' v' h5 h6 => ?_⟩
  by_cases e : r' = r
  · subst e
    rw [ht] at h5; cases h5
    rw [List.getElem?_set_self (by
      have := (List.getElem?_eq_some_iff.1 h6).1
      simpa using this)] at h6
    cases h6; exact hv
  · rw [List.getElem?_set_ne (fun q => e q.symm)] at h6
    exact h4 r' t' v' h5 h6
/-- It stands elsewhere in its function. -/
theorem FrOk.move {P : Pg} {hp : List Obj} {x : Frm} {q : Pt} (h : FrOk P hp x) (hq : PtOk P q) (hf : q.f = x.at_.f) : FrOk P hp { x with at_ := q } := by
  obtain ⟨fn, h1, h2, h3, h4⟩ := h
  exact ⟨fn, by rw [hf]; exact h1, hq, h3, h4⟩
theorem Link.left {P : Pg} {x x' y : Frm} (h : Link P x y) (hf : x'.at_.f = x.at_.f) : Link P x' y := by
  obtain ⟨fx, fy, s, h1, h2, h3⟩ := h
  exact ⟨fx, fy, s, by rw [hf]; exact h1, h2, h3⟩
theorem Link.right {P : Pg} {x y y' : Frm} (h : Link P x y) (hf : y'.at_.f = y.at_.f) (hd : y'.dst = y.dst) : Link P x y' := by
  obtain ⟨fx, fy, s, h1, h2, h3, h4⟩ := h
  exact ⟨fx, fy, s, h1, by rw [hf]; exact h2, h3, by rw [hd]; exact h4⟩
/-- Links within a list. -/
def Lk (P : Pg) (fs : List Frm) : Prop := ∀ (i : Nat) x y, fs[i]? = some x → fs[i + 1]? = some y → Link P x y
theorem Lk.init {P : Pg} {l : List Frm} {x : Frm} (h : Lk P (l ++ [x])) : Lk P l := fun i a b h1 h2 => h i a b (by rw [List.getElem?_append_left (List.getElem?_eq_some_iff.1 h1).1]; exact h1) (by rw [List.getElem?_append_left (List.getElem?_eq_some_iff.1 h2).1]; exact h2)
theorem Lk.snoc {P : Pg} {l : List Frm} {x : Frm} (h : Lk P l) (hx : ∀ y, l.getLast? = some y → Link P y x) : Lk P (l ++ [x]) := fun i a b h1 h2 => by
  rcases Nat.lt_or_ge (i + 1) l.length with hi | hi
  · rw [List.getElem?_append_left (by omega)] at h1
    rw [List.getElem?_append_left hi] at h2
    exact h i a b h1 h2
  · have hlt := (List.getElem?_eq_some_iff.1 h2).1
    have e : i + 1 = l.length := by simp at hlt; omega
    rw [List.getElem?_append_right (by omega), e] at h2
    simp at h2; subst h2
    rw [List.getElem?_append_left (by omega)] at h1
    refine hx a ?_
    rw [List.getLast?_eq_getElem?, ← e]; simpa using h1
theorem Lk.last {P : Pg} {l : List Frm} {x y : Frm} (h : Lk P (l ++ [x])) (hy : l.getLast? = some y) : Link P y x := by
  rw [List.getLast?_eq_getElem?] at hy
  have hl := (List.getElem?_eq_some_iff.1 hy).1
  refine h (l.length - 1) y x (by rw [List.getElem?_append_left hl]; exact hy) ?_
  rw [show l.length - 1 + 1 = l.length by omega, List.getElem?_append_right (Nat.le_refl _)]; simp
theorem Lk.top {P : Pg} {l : List Frm} {x x' : Frm} (h : Lk P (l ++ [x])) (hf : x'.at_.f = x.at_.f) (hd : x'.dst = x.dst) : Lk P (l ++ [x']) := h.init.snoc fun y hy => (h.last hy).right hf hd
end Go.Fn
end
section
set_option linter.unusedVariables false
namespace Go.Fn
open Go Go.Fw

variable {F n : Nat} {h : H} {Q : Post} {K : V → St}

theorem fld_get {ρ : Rl} {k : Nat} {u : V} {fs : List Val} (a : FldAt ρ h k u fs) {i : Nat} {v : Val} (hv : fs[i]? = some v) : ∃ b cs, u = sl b 0 fs.length (U + 3) ∧ ρ b = .fld k ∧ h.get b = some ⟨cs, .grow⟩ ∧ cs.length = fs.length * 3 ∧ cs.all one = true ∧ (∀ i x, fs[i]? = some x → cs[i * 3]? = some (i64 x.k) ∧ cs[i * 3 + 1]? = some (i64 x.n) ∧ cs[i * 3 + 2]? = some (bo x.t)) := by
  rcases a with ⟨rfl, _⟩ | a
  · simp at hv
  · exact a
theorem use_reg {P : Pg} {fn : Fun} {c : Ins} (iok : InsOk P fn c) {r : Int} (h : r ∈ usesP c) (h16 : fn.regs.length ≤ 16) : ∃ (k : Nat) (t : Ty), r = (k : Int) ∧ k < 16 ∧ fn.regs[k]? = some t := by
  obtain ⟨k, t, h1, _, h2, h3⟩ := getI_of (iok.2.2.1 r h)
  exact ⟨k, t, h1, by omega, h2⟩
theorem def_reg {P : Pg} {fn : Fun} {c : Ins} (iok : InsOk P fn c) (h1 : c.op ≠ 8) (h2 : c.op ≠ 9) (h3 : c.op ≠ 15) (h16 : fn.regs.length ≤ 16) : ∃ (k : Nat) (t : Ty), c.dst = (k : Int) ∧ k < 16 ∧ fn.regs[k]? = some t := by
  obtain ⟨k, t, e1, _, e2, e3⟩ := getI_of (iok.2.1 c.dst (by have := iok.1; unfold defP; rw [if_neg (by omega)]))
  exact ⟨k, t, e1, by omega, e2⟩
theorem memory_wp {n0 : Nat} {P : Pg} {ρ : Rl} {bp bM : Nat} {M : Mc} {low : List Frm} {x : Frm} {fn : Fun} {c : Ins} {wa vr vs vi vm vf : V} (ma : MA ρ h bp bM M) (p : Prg h n0 P bp vr vs vi vm vf) (lm : Lm P) (inv : Inv P M) (hM : M.fs = low ++ [x]) (hfn : getI P.funcs x.at_.f = some fn) (iok : InsOk P fn c) (fok : FitOk P fn c) (hop : c.op = 7 ∨ c.op = 8 ∨ c.op = 9) (hwa : one wa = true) (f : Fr n h) (hf : ∀ b, n ≤ b → ρ b = .no)
    (ke : ∀ e n' h', e ≠ 0 → Mv ρ n h ρ n' h' → MA ρ h' bp bM M → Q (i64 e) n' h')
    (k7 : c.op = 7 → ∀ n' h' (j : Nat) (o : Obj) (i r : Nat) (w v : Val) (t : Ty), x.rs[r]? = some w → c.a = (r : Int) → fn.regs[r]? = some t → w.k = 2 → w.n = (j : Int) + 1 → M.hp[j]? = some o → c.n = (i : Int) → o.fs[i]? = some v → Mv ρ n h ρ n' h' → MA ρ h' bp bM { M with fs := low ++ [{ x with rs := x.rs.set c.dst.toNat v }] } → Q (i64 0) n' h')
    (k8 : c.op = 8 → ∀ n' h' (j : Nat) (o : Obj) (i r rb : Nat) (w v : Val) (t : Ty), x.rs[r]? = some w → c.a = (r : Int) → fn.regs[r]? = some t → w.k = 2 → w.n = (j : Int) + 1 → M.hp[j]? = some o → c.n = (i : Int) → i < o.fs.length → c.b = (rb : Int) → x.rs[rb]? = some v → Mv ρ n h ρ n' h' → MA ρ h' bp bM { M with hp := M.hp.set j { o with fs := o.fs.set i v } } → Q (i64 0) n' h')
    (k9 : c.op = 9 → ∀ n' h' (j : Nat) (o : Obj), M.hp[j]? = some o → Mv ρ n h ρ n' h' → MA ρ h' bp bM { M with hp := M.hp.set j { o with free := true } } → Q (i64 0) n' h') : Wp (R14_Machine_memory F (pt bM 0) (insV c wa)) n h Q := by
  obtain ⟨bF, cF, cs, kd, vH, vO, m⟩ := ma
  unfold R14_Machine_memory
  refine (Wp.boxNI f).2 ⟨by simp [oneS, hwa], ?_⟩
  have e0 := (Ev.start f).new ⟨[i64 c.op, i64 c.dst, i64 c.a, i64 c.b, i64 c.n, wa], .own⟩
  have mv0 := (Mv.refl f hf).ev e0
  have m0 := m.ev f e0
  have g0 : (h.set n ⟨[i64 c.op, i64 c.dst, i64 c.a, i64 c.b, i64 c.n, wa], .own⟩).get n = some ⟨[i64 c.op, i64 c.dst, i64 c.a, i64 c.b, i64 c.n, wa], .own⟩ := H.get_set_same _ _ _
  have hbF : bF < n := (m.lt f).2
  have hbM : bM < n := (m.lt f).1
  simp only [List.toList_toArray]
  generalize h.set n ⟨[i64 c.op, i64 c.dst, i64 c.a, i64 c.b, i64 c.n, wa], .own⟩ = h0 at e0 mv0 m0 g0
  have hl : M.fs.length = low.length + 1 := by rw [hM]; simp
  have hs : low.length < 1000 := by have := inv.flen; omega
  have h16 : fn.regs.length ≤ 16 := (lm.fun_ fn (getI_mem hfn)).regs
  refine (cl_top m0 hl hs).2 ?_
  obtain ⟨fn', hfn', okx, n16, vtx⟩ := inv.frm x (by rw [hM]; simp)
  rw [hfn] at hfn'; cases hfn'
  obtain ⟨ra, ta, hra, hra16, hta⟩ := use_reg iok (r := c.a) (by rcases hop with h | h | h <;> simp [usesP, h]) h16
  obtain ⟨w, hw⟩ : ∃ w, x.rs[ra]? = some w := ⟨x.rs[ra]'(by omega), List.getElem?_eq_getElem _⟩
  have vtw := vtx ra ta w hta hw
  have n5 : ¬ c.op = 5 := by omega
  simp only [wpS.1, wpS.2.1, wpS.2.2.1, wpS.2.2.2.2, wpM.1, g0, ldv_own, Nat.zero_add, List.getElem?_cons_succ, List.getElem?_cons_zero, Option.some.injEq, exists_eq_left', decide_eq_true_eq, decide_eq_false_iff_not, jn]
  refine ⟨fun h => absurd h n5, fun _ => ?_⟩
  rw [hra]
  refine cl_object m0 hM hs mv0.f hw (fun hk h1 e1 => ?_) (fun hk h1 e1 => ?_)
  · simp only [Wp.extractI, List.getElem?_cons_zero, List.getElem?_cons_succ, Option.some.injEq, exists_eq_left', wpS.1, wpS.2.1, wpS.2.2.1, wpS.2.2.2.2]
    refine ⟨by simp [isNF], by simp [isNF], fun _ => ke 1 _ _ (by decide) (mv0.ev e1) ⟨bF, cF, cs, kd, vH, vO, m0.ev mv0.f e1⟩, fun h => absurd h (by decide)⟩
  obtain ⟨j, o, hj, ho, htj⟩ := vtw.1 hk
  have hjl := (List.getElem?_eq_some_iff.1 ho).1
  refine ⟨j, hj, hjl, by have := inv.hlen; omega, fun bH hvH => ?_⟩
  subst hvH
  have m1 := m0.ev mv0.f e1
  have mv1 := mv0.ev e1
  have g1 : h1.get n = some ⟨[i64 c.op, i64 c.dst, i64 c.a, i64 c.b, i64 c.n, wa], .own⟩ := by rw [e1.no (by omega), g0]
  obtain ⟨bH', csH, hbH', hne0, roH, gH, lH, oneH, eachH⟩ : ∃ b cs, sl bH 0 M.hp.length (U + 3) = sl b 0 M.hp.length (U + 3) ∧ M.hp ≠ [] ∧ ρ b = .hp ∧ h1.get b = some ⟨cs, .grow⟩ ∧ cs.length = M.hp.length * 3 ∧ cs.all one = true ∧ ∀ k o, M.hp[k]? = some o → cs[k * 3]? = some (i64 o.site) ∧ cs[k * 3 + 2]? = some (bo o.free) ∧ ∃ u, cs[k * 3 + 1]? = some u ∧ FldAt ρ h1 k u o.fs := by
    rcases m1.hp with ⟨q, _⟩ | q
    · rw [q] at hjl; simp at hjl
    · exact q
  cases hbH'
  obtain ⟨s0, s2, u, s1, fu⟩ := eachH j o ho
  obtain ⟨_, rc, hrc, hol, hvt⟩ := inv.hp o (List.mem_of_getElem? ho)
  simp only [Wp.extractI, List.getElem?_cons_zero, List.getElem?_cons_succ, Option.some.injEq, exists_eq_left', wpS.1, wpS.2.1, wpS.2.2.1, wpS.2.2.2.2]
  refine ⟨by simp [isNF], by simp [isNF], fun h => absurd h (by decide), fun _ => ?_⟩
  rw [ldW gH (by decide) s2]
  refine Wp.bool.2 ⟨fun _ => Wp.retI.2 (ke 2 _ _ (by decide) mv1 ⟨bF, cF, cs, kd, _, vO, m1⟩), fun _ => ?_⟩
  have hneMH : bM ≠ bH := fun q => by have := m.role; rw [q, roH] at this; cases this
  have hneFH : bF ≠ bH := fun q => by have := m.fs.role; rw [q, roH] at this; cases this
  have hbH : bH < n + 1 + 1 := e1.f.lt gH
  simp only [wpS.1, wpS.2.1, wpS.2.2.1, wpS.2.2.2.2, wpM.1, g1, ldv_own, gH, ldv_grow, s1, Nat.zero_add, List.getElem?_cons_succ, List.getElem?_cons_zero, Option.some.injEq, exists_eq_left', decide_eq_true_eq, decide_eq_false_iff_not, jn]
  refine ⟨fun h7 => ?_, fun h7 => ⟨fun h8 => ?_, fun h8 => ?_⟩⟩
  · -- a field is read
    obtain ⟨t, rc', u', e1', e2', e3', e4', e5'⟩ := fok.f7 h7
    rw [hra, getI_nat, hta] at e1'; cases e1'
    have hreq : rc' = rc := by
      rcases htj with h | h
      · omega
      · rw [h] at e3'; rw [hrc] at e3'; cases e3'; rfl
    subst hreq
    obtain ⟨i, hi, hi2⟩ := getI_some e4'
    obtain ⟨v, hv⟩ : ∃ v, o.fs[i]? = some v := ⟨o.fs[i]'(by rw [hol]; exact (List.getElem?_eq_some_iff.1 hi2).1), List.getElem?_eq_getElem _⟩
    obtain ⟨bU, csU, rfl, roU, gU, lU, oneU, eachU⟩ := fld_get fu hv
    obtain ⟨q0, q1, q2⟩ := eachU i v hv
    obtain ⟨kd', td, hkd, hkd16, htd⟩ := def_reg iok (by omega) (by omega) (by omega) h16
    have hbU : bU < n + 1 + 1 := e1.f.lt gU
    rw [hi, ixI (List.getElem?_eq_some_iff.1 hv).1, Nat.zero_add, ld3W gU (by decide) q0 q1 q2, hkd]
    refine cl_set ⟨bF, cF, cs, kd, _, vO, m1⟩ hM hs e1.f mv1.fresh hkd16 fun h2 mv2 ma2 => Wp.retI.2 (k7 h7 _ _ j o i ra w v ta hw hra hta hk hj ho hi hv (mv1.trans mv2) (by rw [hkd]; exact ma2))
  · -- a field is written
    obtain ⟨t, rc', u', e1', e2', e3', e4', e5'⟩ := fok.f8 h8
    rw [hra, getI_nat, hta] at e1'; cases e1'
    have hreq : rc' = rc := by
      rcases htj with h | h
      · omega
      · rw [h] at e3'; rw [hrc] at e3'; cases e3'; rfl
    subst hreq
    obtain ⟨i, hi, hi2⟩ := getI_some e4'
    obtain ⟨v0, hv0⟩ : ∃ v, o.fs[i]? = some v := ⟨o.fs[i]'(by rw [hol]; exact (List.getElem?_eq_some_iff.1 hi2).1), List.getElem?_eq_getElem _⟩
    have hil := (List.getElem?_eq_some_iff.1 hv0).1
    obtain ⟨bU, csU, rfl, roU, gU, lU, oneU, eachU⟩ := fld_get fu hv0
    obtain ⟨rb, tb, hrb, hrb16, htb⟩ := use_reg iok (r := c.b) (by simp [usesP, h8]) h16
    obtain ⟨v, hv⟩ : ∃ w, x.rs[rb]? = some w := ⟨x.rs[rb]'(by omega), List.getElem?_eq_getElem _⟩
    have top1 := m1.fs.each low.length x (by rw [hM]; simp)
    obtain ⟨c0, c1, c2⟩ := top1.ld hv
    have hbU : bU < n + 1 + 1 := e1.f.lt gU
    have hi3 : i * 3 + 3 ≤ csU.length := by
      rw [lU]
      have := Nat.mul_le_mul_right 3 hil
      rw [Nat.succ_mul] at this; omega
    rw [hrb, ixA hrb16, ld3W m1.fs.get m1.live c0 c1 c2, hi, ixI hil, Nat.zero_add, stNW (s := 3) (vs := valC v) gU (.inr rfl) rfl hi3 (by simp [oneS])]
    refine Wp.retI.2 (k8 h8 _ _ j o i ra rb w v ta hw hra hta hk hj ho hi hil hrb hv (mv1.set _ hbU (fun _ => by rw [roU]; simp)) ?_)
    have hneU : ∀ {b}, ρ b ≠ .fld j → b ≠ bU := fun {b} hb q => hb (by rw [q]; exact roU)
    have same : ∀ b, b ≠ bU → (h1.set bU ⟨over csU (i * 3) (valC v), .grow⟩).get b = h1.get b := fun b hb => H.get_set_ne _ _ hb
    refine ⟨bF, cF, cs, kd, sl bH 0 M.hp.length (U + 3), vO, m.role, ?_, ?_, ?_, ?_⟩
    · rw [same _ (hneU (by rw [m.role]; simp))]; simpa using m1.get
    · exact ⟨m1.fs.role, by rw [same _ (hneU (by rw [m.fs.role]; simp))]; exact m1.fs.get, m1.fs.one, m1.fs.kind, m1.fs.len, m1.fs.own, m1.fs.mul, m1.fs.own1, m1.fs.each⟩
    · refine .inr ⟨bH, csH, by simp, by simp [hne0], roH, by rw [same _ (hneU (by rw [roH]; simp))]; exact gH, by simp [lH], oneH, fun k' o' ho' => ?_⟩
      by_cases e : k' = j
      · subst e
        rw [List.getElem?_set_self hjl] at ho'; cases ho'
        refine ⟨s0, s2, _, s1, .inr ⟨bU, over csU (i * 3) (valC v), by simp, roU, H.get_set_same _ _ _, by rw [over_length (by simpa using hi3)]; simp [lU], over_all oneU (by simp [oneS]), fun i' v' hv' => ?_⟩⟩
        by_cases e2 : i' = i
        · subst e2
          rw [List.getElem?_set_self hil] at hv'; cases hv'
          exact ⟨over_in (k := 0) (by simpa using hi3) (by simp), over_in (k := 1) (by simpa using hi3) (by simp), over_in (k := 2) (by simpa using hi3) (by simp)⟩
        · rw [List.getElem?_set_ne (fun q => e2 q.symm)] at hv'
          obtain ⟨r0, r1, r2⟩ := eachU i' v' hv'
          exact ⟨by rw [over_out (by simpa using hi3) (by simp; omega)]; exact r0, by rw [over_out (by simpa using hi3) (by simp; omega)]; exact r1, by rw [over_out (by simpa using hi3) (by simp; omega)]; exact r2⟩
      · rw [List.getElem?_set_ne (fun q => e q.symm)] at ho'
        obtain ⟨t0, t2, u2, t1, fu2⟩ := eachH k' o' ho'
        exact ⟨t0, t2, u2, t1, fu2.keep fun b hb _ => ⟨hb, same b (hneU (by rw [hb]; simp; exact e))⟩⟩
    · exact m1.os.keep e1.f fun b hb _ => ⟨rfl, same b (hneU (by rw [hb]; simp))⟩
  · -- it is free
    have h9 : c.op = 9 := by omega
    have hj3 : j * 3 + 2 < csH.length := (List.getElem?_eq_some_iff.1 s2).1
    rw [st1W gH (.inr rfl) hj3 rfl]
    refine Wp.retI.2 (k9 h9 _ _ j o ho (mv1.set _ hbH (fun _ => by rw [roH]; simp)) ?_)
    have hneH : ∀ {b}, ρ b ≠ .hp → b ≠ bH := fun {b} hb q => hb (by rw [q]; exact roH)
    have same : ∀ b, b ≠ bH → (h1.set bH ⟨csH.set (j * 3 + 2) (bo true), .grow⟩).get b = h1.get b := fun b hb => H.get_set_ne _ _ hb
    refine ⟨bF, cF, cs, kd, sl bH 0 M.hp.length (U + 3), vO, m.role, ?_, ?_, ?_, ?_⟩
    · rw [same _ hneMH]; simpa using m1.get
    · exact ⟨m1.fs.role, by rw [same _ hneFH]; exact m1.fs.get, m1.fs.one, m1.fs.kind, m1.fs.len, m1.fs.own, m1.fs.mul, m1.fs.own1, m1.fs.each⟩
    · refine .inr ⟨bH, _, by simp, by simp [hne0], roH, H.get_set_same _ _ _, by simp [lH], set_all oneH rfl, fun k' o' ho' => ?_⟩
      by_cases e : k' = j
      · subst e
        rw [List.getElem?_set_self hjl] at ho'; cases ho'
        exact ⟨by rw [List.getElem?_set_ne (by omega)]; exact s0, by rw [List.getElem?_set_self hj3], u, by rw [List.getElem?_set_ne (by omega)]; exact s1, fu.keep fun b hb _ => ⟨hb, same b (hneH (by rw [hb]; simp))⟩⟩
      · rw [List.getElem?_set_ne (fun q => e q.symm)] at ho'
        obtain ⟨t0, t2, u2, t1, fu2⟩ := eachH k' o' ho'
        exact ⟨by rw [List.getElem?_set_ne (by omega)]; exact t0, by rw [List.getElem?_set_ne (by omega)]; exact t2, u2, by rw [List.getElem?_set_ne (by omega)]; exact t1, fu2.keep fun b hb _ => ⟨hb, same b (hneH (by rw [hb]; simp))⟩⟩
    · exact m1.os.keep e1.f fun b hb _ => ⟨rfl, same b (hneH (by rw [hb]; simp))⟩
end Go.Fn
end
