/-
  The framework by which the law is proved: FuM, FuO, FuP, FuN, FuQ, FuR.
-/
import Derived.Test.YtdomcfoabnhlfaaSfn6
import Derived.Test.YtdomcfoabnhlfaaSwk2
set_option linter.all false
section
set_option linter.unusedVariables false
set_option maxRecDepth 20000
namespace Go.Fn
open Go Go.Fw Go.Proofs

/-- What comes behind what is begun. -/
noncomputable def RS_tail (F : Nat) (x0 x1 x2 : V) : St :=
  cl (L14_Right F x0) fun v2 => kNot v2 fun v3 => onB v3 (ret (bo true)) (cl (L14_New F x0 x1) fun v4 => kBuild [(i64 0), (i64 0), (i64 0), (i64 0), (i64 0), (i64 0), (i64 0), (i64 0), (i64 0), (i64 0), (i64 0), (i64 0), (i64 0), (i64 0), (i64 0), (i64 0)] [] fun v5 => kBuildSlice 1 (rep 1 [(i64 0), (i64 0), (i64 0), (i64 0), (i64 0), (i64 0), (i64 0), (i64 0), (i64 0), (i64 0), (i64 0), (i64 0), (i64 0), (i64 0), (i64 0), (i64 0)]) [⟨0, 16, true, v5⟩] fun v6 => jn (α := St) (ret (bo true)) fun j7 => lpK (α := V → V → V → V → V → St) (fun _ _ _ _ _ => fail) (fun r8 v9 v10 v11 v12 v13 => jn (α := V → V → V → V → V → V → St) (fun v15 v16 v17 v18 v19 v20 => onB v20 (jn (α := V → V → V → V → V → St) (fun v22 v23 v24 v25 v26 => kAdd v26 (i64 1) fun v27 => r8 v22 v23 v24 v25 v27) fun j21 => cl (R14_Machine_At F v17) fun v28 => kNil v17 fun v29 => kFieldAddr 1 v29 fun v30 => kLoad v30 fun v31 => kNil v17 fun v32 => kFieldAddr 1 v32 fun v33 => kLoad v33 fun v34 => kLen v34 fun v35 => kSub v35 (i64 1) fun v36 => kIndexAddr 68 v31 v36 fun v37 => kFieldAddr 0 v37 fun v38 => kLoadN 3 v38 fun v39 => kPtr [(i64 0), (i64 0), (i64 0)] fun v40 => kStoreN 3 v40 v39 fun _ => kLoadN 3 v40 fun v42 => cl (R8_Reads F v15 v42) fun v43 => jn (α := V → V → V → V → V → V → V → St) (fun v45 v46 v47 v48 v49 v50 v51 => kLoadN 3 v51 fun v52 => cl (R8_Code F v45 v52) fun v53 => kExtract v53 0 fun v54 => kExtract v53 1 fun v55 => kPtr [(i64 0), (i64 0), (i64 0), (i64 0), (i64 0), nsl] fun v56 => kStoreN 6 v56 v54 fun _ => kLoadN 6 v56 fun v58 => cl (R8_Def F v58) fun v59 => kExtract v59 0 fun v60 => kExtract v59 1 fun v61 => cl (R14_Machine_Step F v47) fun v62 => kNeq v62 (i64 0) fun v63 => onB v63 (j7) (jn (α := V → V → V → V → V → St) (fun v65 v66 v67 v68 v69 => jn (α := V → V → V → V → V → St) (fun v71 v72 v73 v74 v75 => kNil v73 fun v76 => kFieldAddr 1 v76 fun v77 => kLoad v77 fun v78 => kLen v78 fun v79 => kSlice 16 v74 none (some v79) none fun v80 => j21 v71 v72 v73 v80 v75) fun j70 => kNil v67 fun v81 => kFieldAddr 5 v81 fun v82 => kLoad v82 fun v83 => kGeq v83 (i64 0) fun v84 => onB v84 (kBuild [(i64 0), (i64 0), (i64 0), (i64 0), (i64 0), (i64 0), (i64 0), (i64 0), (i64 0), (i64 0), (i64 0), (i64 0), (i64 0), (i64 0), (i64 0), (i64 0)] [] fun v85 => kBuildSlice 1 (rep 1 [(i64 0), (i64 0), (i64 0), (i64 0), (i64 0), (i64 0), (i64 0), (i64 0), (i64 0), (i64 0), (i64 0), (i64 0), (i64 0), (i64 0), (i64 0), (i64 0)]) [⟨0, 16, true, v85⟩] fun v86 => kApp 16 128 v68 v86 fun v87 => j70 v65 v66 v67 v87 v69) (j70 v65 v66 v67 v68 v69)) fun j64 => jn (α := V → V → V → V → V → V → V → V → St) (fun v89 v90 v91 v92 v93 v94 v95 v96 => onB v96 (kLen v92 fun v97 => kSub v97 (i64 1) fun v98 => kAdd v94 (i64 1) fun v99 => kIndexAddr 16 v92 v98 fun v100 => kIndexAddrA 16 1 v100 v95 fun v101 => kStore v101 v99 fun _ => j64 v89 v90 v91 v92 v93) (j64 v89 v90 v91 v92 v93)) fun j88 => onB v55 (j88 v45 v46 v47 v48 v49 v50 v60 v61) (j88 v45 v46 v47 v48 v49 v50 v60 (bo false)))) fun j44 => lpK (α := V → V → V → V → V → V → V → V → V → St) (fun _ _ _ _ _ _ _ _ _ => fail) (fun r103 v104 v105 v106 v107 v108 v109 v110 v111 v112 => kLen v111 fun v113 => kLss v112 v113 fun v114 => onB v114 (kIndexAddr 1 v111 v112 fun v115 => kLoad v115 fun v116 => kLen v107 fun v117 => kSub v117 (i64 1) fun v118 => kIndexAddr 1 v111 v112 fun v119 => kLoad v119 fun v120 => kIndexAddr 16 v107 v118 fun v121 => kIndexAddrA 16 1 v121 v120 fun v122 => kLoad v122 fun v123 => cl (reach_Defs F v104 v109 v116) fun v124 => kChk false v119 v120 (kChk false v122 v123 (cl (L21_there F v124 v123) fun v125 => kNot v125 fun v126 => onB v126 (ret (bo false)) (kAdd v112 (i64 1) fun v127 => r103 v104 v105 v106 v107 v108 v109 v110 v111 v127)))) (j44 v104 v105 v106 v107 v108 v109 v110)) F v15 v16 v17 v18 v19 v28 v40 v43 (i64 0)) (j7)) fun j14 => kLss v13 v10 fun v128 => onB v128 (kLss v13 (i64 150) fun v129 => j14 v9 v10 v11 v12 v13 v129) (j14 v9 v10 v11 v12 v13 (bo false))) F x0 x2 v4 v6 (i64 0))

noncomputable def RS_E (F : Nat) : Fw.Env := envOf [(6, gbM 0 (apN 0 (L21_begun F))), (7, apN 1 (L14_Right F)), (8, apN 2 (L14_New F)), (9, apN 1 (R14_Machine_At F)), (10, apN 2 (R8_Reads F)), (11, apN 2 (L21_there F)), (12, apN 3 (reach_Defs F)), (13, apN 2 (R8_Code F)), (14, apN 1 (R8_Def F)), (15, apN 1 (R14_Machine_Step F))]

noncomputable def RS (F : Nat) (x0 x1 x2 : V) : St :=
  cl (gbM 0 (apN 0 (L21_begun F)) []) fun v0 => kNot v0 fun v1 => onB v1 (ret (bo false)) (RS_tail F x0 x1 x2)

theorem RS_ok (F : Nat) : Sim Try.prog TryG 3 (apN 3 (RS F)) := Sim.of_fn (F := F) (E := RS_E F) (x := L21_ReachSound_c) Try.func3 (by kernel_rfl) Try.call3 Trymix (by kernel_rfl) (by kernel_rfl) (EnvOK.cons (gb_sim (L21_begun_ok F)) (EnvOK.cons (L14_Right_ok F) (EnvOK.cons (L14_New_ok F) (EnvOK.cons (R14_Machine_At_ok F) (EnvOK.cons (R8_Reads_ok F) (EnvOK.cons (L21_there_ok F) (EnvOK.cons (reach_Defs_ok F) (EnvOK.cons (R8_Code_ok F) (EnvOK.cons (R8_Def_ok F) (EnvOK.cons (R14_Machine_Step_ok F) EnvOK.nil)))))))))) fun x0 x1 x2 _ => by kernel_rfl

variable {F n : Nat} {h : H} {Q : Post} {K : V → St}

theorem begun_once (hb : gaveTrue ((L21_begun F).run 0 .leaf) = true) (k : Wp (K (bo true)) n h Q) : Wp (cl (gbM 0 (apN 0 (L21_begun F)) []) K) n h Q := by
  refine Wp.of (run_bnd ?_) k
  obtain ⟨n', h', e⟩ := gaveTrue_some hb
  show gbF 0 (apN 0 (L21_begun F)) [] n h = _
  unfold gbF
  dsimp only
  rw [show resH h 0 = .leaf from rfl, show (apN 0 (L21_begun F) []).run 0 .leaf = _ from e]
  rfl

theorem MA.top {ρ : Rl} {bp bM : Nat} {M : Mc} (ma : MA ρ h bp bM M) : ∃ bF cF cs kd vH vO, MM ρ h bp bM M bF cF cs kd vH vO := ma

theorem LpI.start {n0 n' : Nat} {h0 h' : H} {P : Pg} {bp bM : Nat} {ρ : Rl} {os : List Int} (rt : Rt P) (ho : os.length ≤ 1000) (f : Fr n' h') (hn : n0 ≤ n') (kp : Kp n0 h0 h') (no : ∀ b, b < n0 → ρ b = .no) (fresh : ∀ b, n' ≤ b → ρ b = .no) (ma : MA ρ h' bp bM (mc0 P os)) :
    LpI P n0 h0 bp bM ρ (n' + 1) (h'.set n' ⟨z16, .own⟩) (mc0 P os) n' 1 z16 .own [List.replicate 16 0] := by
  refine ⟨f.new _, by omega, kp.trans fun b hb => H.get_set_ne _ _ (by omega), no, fun b hb => fresh b (by omega), ma.ev f ((Ev.start f).new _), mc0_inv rt ho, rfl, ⟨fresh _ (Nat.le_refl _), H.get_set_same _ _ _, by simp [oneS], .inr ⟨rfl, rfl, by decide⟩, by simp, fun _ => by simp, ⟨1, by simp⟩, fun _ => rfl, fun row hr => by simp at hr; subst hr; simp, fun i r row v hi hr => ?_⟩, hn, ⟨rfl, fun i x row hx hrow r v hv => ?_⟩⟩
  · have hi0 : i = 0 := by have := (List.getElem?_eq_some_iff.1 hi).1; simp at this; exact this
    subst hi0
    cases hi
    rw [Nat.zero_mul, Nat.zero_add]; exact (z16_get hr).2
  · have hi0 : i = 0 := by have := (List.getElem?_eq_some_iff.1 hx).1; simp [mc0] at this; exact this
    subst hi0
    cases hx; cases hrow
    rw [List.getElem?_replicate] at hv
    split at hv
    · cases hv; exact .inl ⟨rfl, .start⟩
    · cases hv

theorem tail_wp {n0 : Nat} {P : Pg} {bp : Nat} {vo : V} {os : List Int} {st : Int} {vr vs vi vm vf : V} (p : Prg h n0 P bp vr vs vi vm vf) (so : SlR h n0 1 IntC vo os) (hcap : vo = nsl ∨ ∃ b o c, vo = sl b o os.length c ∧ c < U) (hF : 100000 < F) (f : Fr n h) (hn : n0 ≤ n) (q : ∀ n' h', Q (bo true) n' h') : Wp (RS_tail F (pt bp 0) vo (i64 st)) n h Q := by
  unfold RS_tail
  refine Wp.cl' (right_wp p hF f hn fun z n1 h1 e1 hz => ?_)
  refine (Wp.eq st_not).2 (Wp.bool.2 ⟨fun _ => Wp.retI.2 (q _ _), fun hzt => ?_⟩)
  have rt := hz (by simpa using hzt)
  have lm := rt.lm
  have le1 := e1.le
  refine Wp.cl' (lnew_wp (p.keep (Kp.ev e1 hn)) (so.keep (Kp.ev e1 hn) fun _ _ h => h) hcap e1.f (by omega) fun ρ n2 h2 bM os' ho e2 r1 r2 ma => ?_)
  have le2 := e2.le
  have e12 := Ev.more e1 e2
  refine Wp.buildI.2 ⟨z16, rfl, ?_⟩
  refine (Wp.buildSliceI e2.f).2 ⟨z16, by simp [fillA, rep, over, oneS], by simp [oneS], ?_⟩
  have v0 := LpI.start (n0 := n0) (h0 := h) rt ho e2.f (by omega) (Kp.ev e12 hn) (fun b hb => r1 b (by omega)) r2 ma
  generalize h2.set n2 ⟨z16, .own⟩ = h3 at v0
  refine Wp.jn (fun j => ∀ n' h', Wp j n' h' Q) (fun n' h' => Wp.retI.2 (q _ _)) fun j7 hj7 => ?_
  refine Wp.loop5 (fun d x0 x1 x2 x3 x4 n' h' => x0 = pt bp 0 ∧ x1 = i64 st ∧ x2 = pt bM 0 ∧ ∃ (i : Nat) (ρ : Rl) (M : Mc) (b c : Nat) (cs : List V) (kd : Kind) (L : List (List Int)), x3 = sl b 0 L.length c ∧ x4 = i64 (i : Int) ∧ i + d = 150 ∧ LpI P n0 h bp bM ρ n' h' M b c cs kd L) ?_ (d := 150) ⟨rfl, rfl, rfl, 0, ρ, _, _, _, _, _, _, rfl, rfl, by omega, v0⟩ (by omega)
  clear v0 ma r1 r2
  rintro d _ _ _ _ _ n4 h4 rec ⟨rfl, rfl, rfl, i, ρ, M, b, c, cs, kd, L, rfl, rfl, hi, v⟩ hr
  have wi := wrap_succ (show i < 9223372036854775807 by omega)
  refine Wp.jn (fun j => ∀ z : Bool, (z = true → i < 150) → Wp (j (pt bp 0) (i64 st) (pt bM 0) (sl b 0 L.length c) (i64 (i : Int)) (bo z)) n4 h4 Q) ?_ fun j14 hj14 => ?_
  case refine_2 =>
    simp only [wpS.1, wpS.2.1, wpS.2.2.1, wpS.2.2.2.2, decide_eq_true_eq, decide_eq_false_iff_not]
    exact ⟨fun _ => hj14 _ fun h => by have := of_decide_eq_true h; omega, fun _ => hj14 _ (by simp)⟩
  intro z hz150
  refine Wp.bool.2 ⟨fun hzt2 => ?_, fun _ => hj7 _ _⟩
  have hi150 := hz150 hzt2
  refine Wp.jn (fun j => ∀ ρ' n' h' M' b' c' cs' kd' L', LpI P n0 h bp bM ρ' n' h' M' b' c' cs' kd' L' → Wp (j (pt bp 0) (i64 st) (pt bM 0) (sl b' 0 L'.length c') (i64 (i : Int))) n' h' Q) ?_ fun j21 hj21 => ?_
  case refine_1 =>
    intro ρ' n' h' M' b' c' cs' kd' L' v'
    simp only [wpS, wi]
    exact hr (d - 1) _ _ _ _ _ _ _ (by omega) ⟨rfl, rfl, rfl, i + 1, ρ', M', b', c', cs', kd', L', rfl, rfl, by omega, v'⟩
  obtain ⟨low, x, row, hM, hl, hL, hrow⟩ := v.low
  have p4 := p.keep v.kp
  have hfl : M.fs.length = low.length + 1 := by rw [hM]; simp
  obtain ⟨fn, hfn, okx, _, _⟩ := v.inv.frm x (by rw [hM]; simp)
  obtain ⟨a, ha, hna⟩ := okx.num
  obtain ⟨bF, cF, csF, kdF, vH, vO, m4⟩ := v.ma.top
  refine cl_at m4 p4 lm hM (by omega) v.f v.hn hF fun n5 h5 e5 => ?_
  rw [hna]
  have v5 := v.ev e5
  obtain ⟨bF, cF, csF, kdF, vH, vO, m5⟩ := v5.ma.top
  have top := m5.fs.each low.length x (by rw [hM]; simp)
  simp only [wpS.1, wpS.2.1, wpS.2.2.1, wpS.2.2.2.2, wpM.1, m5.get, ldv_own, Nat.zero_add, Nat.add_zero, List.getElem?_cons_zero, List.getElem?_cons_succ, Option.some.injEq, exists_eq_left']
  rw [hfl, wrap64 (by omega), show ((low.length + 1 : Nat) : Int) - 1 = (low.length : Int) by omega, ixI (by omega)]
  simp only [wpS.1, wpS.2.1, wpS.2.2.1, wpS.2.2.2.2, Nat.zero_add, Nat.add_zero]
  rw [ld3W m5.fs.get m5.live top.f top.b top.i]
  refine Wp.put (cs := [i64 x.at_.f, i64 x.at_.b, i64 x.at_.i]) e5.f (by simp [oneS]) (by simp [oneS]) rfl rfl ?_
  have e6 := ((Ev.start e5.f).new ⟨[i64 0, i64 0, i64 0], .own⟩).set (b := n5) ⟨[i64 x.at_.f, i64 x.at_.b, i64 x.at_.i], .own⟩ (by omega) (by omega)
  have g6 : ((h5.set n5 ⟨[i64 0, i64 0, i64 0], .own⟩).set n5 ⟨[i64 x.at_.f, i64 x.at_.b, i64 x.at_.i], .own⟩).get n5 = some ⟨[i64 x.at_.f, i64 x.at_.b, i64 x.at_.i], .own⟩ := H.get_set_same _ _ _
  generalize (h5.set n5 ⟨[i64 0, i64 0, i64 0], .own⟩).set n5 ⟨[i64 x.at_.f, i64 x.at_.b, i64 x.at_.i], .own⟩ = h6 at e6 g6
  have v6 := v5.ev e6
  have p6 := p.keep v6.kp
  rw [ld3W g6 (by decide) rfl rfl rfl]
  obtain ⟨fn', bl, hb1, hb2, _⟩ := okx
  refine Wp.cl' (reads_wp p6 lm (q := x.at_) (bl := bl) (by unfold bloP; rw [hb1]; exact hb2) v6.f v6.hn fun n7 h7 w e7 sw => ?_)
  have le6 := v6.hn
  have v7 := v6.ev e7
  have g7 : h7.get n5 = some ⟨[i64 x.at_.f, i64 x.at_.b, i64 x.at_.i], .own⟩ := by rw [e7.no (by omega), g6]
  refine Wp.jn (fun j => ∀ n' h', Ev No n7 h7 n' h' → Wp (j (pt bp 0) (i64 st) (pt bM 0) (sl b 0 L.length c) (i64 (i : Int)) (i64 (a : Int)) (pt n5 0)) n' h' Q) ?_ fun j44 hj44 => ?_
  case refine_1 =>
    intro n' h' e'
    exact after_wp (v7.ev e') p rt hM hl hL hrow ha (by rw [e'.no (by have := e7.le; omega), g7]) hF hj7 hj21
  exact readloop v7 (p.keep v7.kp) rt hM hl hL hrow ha (sw.keep (fun b hb => ⟨by omega, hb.2⟩) (fun _ _ => rfl) fun _ _ h => h) hF q hj44
end Go.Fn
end
section
set_option maxRecDepth 20000
set_option linter.unusedVariables false
namespace Go.Fn
open Go Go.Fw Go.ChangeShapes Go.WideShapes

def VL (ρ : Map) (cs vs : List V) : Prop := cs.length = vs.length ∧ ∀ (i : Nat) v, cs[i]? = some v → ∃ v', vs[i]? = some v' ∧ VR ρ v v'
theorem VL.mono {ρ ρ' : Map} {cs vs : List V} (h : VL ρ cs vs) (le : Le ρ ρ') : VL ρ' cs vs := ⟨h.1, fun i v hv => by
  obtain ⟨v', h1, h2⟩ := h.2 i v hv
  exact ⟨v', h1, h2.mono le⟩⟩
theorem VL.app {ρ : Map} {a b va vb : List V} (h : VL ρ a va) (k : VL ρ b vb) : VL ρ (a ++ b) (va ++ vb) := by
  refine ⟨by rw [List.length_append, List.length_append, h.1, k.1], fun i v hv => ?_⟩
  rcases Nat.lt_or_ge i a.length with hi | hi
  · rw [List.getElem?_append_left hi] at hv
    obtain ⟨v', h1, h2⟩ := h.2 i v hv
    exact ⟨v', by rw [List.getElem?_append_left (by rw [← h.1]; exact hi)]; exact h1, h2⟩
  · rw [List.getElem?_append_right hi] at hv
    obtain ⟨v', h1, h2⟩ := k.2 _ v hv
    exact ⟨v', by rw [List.getElem?_append_right (by rw [← h.1]; exact hi), ← h.1]; exact h1, h2⟩

abbrev Rel := H → Nat → List V → Prop
def Mono (E : Rel) : Prop := ∀ (h h' : H) (n n' : Nat) (cs : List V), E h n cs → n ≤ n' → (∀ b, b < n → h'.get b = h.get b) → E h' n' cs

section
variable {H' : Type} (enc : TypeId × Value → H') (P : Program) (W : World)

/-- What is read of a type comes in, so that E holds of it. -/
def EntR (t : TypeId) (E : Rel) : Prop :=
  ∀ (G n : Nat) (ρ : Map) (h : H) (fuel : Nat) (vs : List V) (x : DataW H' × List MemPlace), Entry G W n ρ h → DataW.trod enc P W 0 (fun _ => true) true fuel t vs = some x →
    ∃ n' ρ' h' cs, n ≤ n' ∧ Entry G W n' ρ' h' ∧ Le ρ ρ' ∧ VL ρ' cs vs ∧ E h' n' cs ∧ ∀ b, b < n → h'.get b = h.get b
variable {enc P W}

theorem EntR.imp {t : TypeId} {E E' : Rel} (a : EntR enc P W t E) (k : ∀ h n cs, E h n cs → E' h n cs) : EntR enc P W t E' := by
  intro G n ρ h fuel vs x en hx
  obtain ⟨n', ρ', h', cs, h1, h2, h3, h4, h5, h6⟩ := a G n ρ h fuel vs x en hx
  exact ⟨n', ρ', h', cs, h1, h2, h3, h4, k _ _ _ h5, h6⟩

def IntE : Rel := fun _ _ cs => ∃ z, IntC cs z
theorem IntE.mono : Mono IntE := fun _ _ _ _ _ h _ _ => h
theorem EntR.int {t : TypeId} (hu : P.underlying t = some (.int .i64)) : EntR enc P W t IntE := by
  intro G n ρ h fuel vs x en hx
  obtain ⟨z, hz, _, hw⟩ := DataW.trod_int hu hx
  subst hz
  refine ⟨n, ρ, h, [i64 z], Nat.le_refl _, en, Le.refl _, ⟨rfl, fun i v hv => ?_⟩, ⟨z, rfl, fit_of_wf hw⟩, fun _ _ => rfl⟩
  cases i with
  | zero => cases hv; exact ⟨_, rfl, .int _ _⟩
  | succ i => cases hv

/-! ## Structs -/

def ELs : List Rel → Rel
  | [], _, _, cs => cs = []
  | E :: r, h, n, cs => ∃ a b, cs = a ++ b ∧ E h n a ∧ ELs r h n b
theorem ELs.mono : ∀ {l : List Rel}, (∀ E ∈ l, Mono E) → Mono (ELs l)
  | [], _ => fun _ _ _ _ _ h _ _ => h
  | E :: r, hm => fun h h' n n' cs ⟨a, b, e, h1, h2⟩ hn hk => ⟨a, b, e, hm E List.mem_cons_self _ _ _ _ _ h1 hn hk, ELs.mono (fun E h => hm E (List.mem_cons_of_mem _ h)) _ _ _ _ _ h2 hn hk⟩

def FOk (enc : TypeId × Value → H') (P : Program) (W : World) : List Field → Nat → List (Nat × Rel) → Prop
  | [], _, [] => True
  | f :: fs, o, (k, E) :: l => f.offset = o ∧ P.cellsOf f.type = k ∧ EntR enc P W f.type E ∧ Mono E ∧ FOk enc P W fs (o + k) l
  | _, _, _ => False
def tot : List (Nat × Rel) → Nat
  | [] => 0
  | (k, _) :: l => k + tot l

theorem fields_enter {G fuel : Nat} {vs : List V} : ∀ (fs : List Field) (l : List (Nat × Rel)) (o n : Nat) (ρ : Map) (h : H), FOk enc P W fs o l → Entry G W n ρ h → (∀ f ∈ fs, ∃ y, DataW.trod enc P W 0 (fun _ => true) true fuel f.type ((vs.drop f.offset).take (P.cellsOf f.type)) = some y) →
    ∃ n' ρ' h' cs, n ≤ n' ∧ Entry G W n' ρ' h' ∧ Le ρ ρ' ∧ VL ρ' cs ((vs.drop o).take (tot l)) ∧ ELs (l.map (·.2)) h' n' cs ∧ ∀ b, b < n → h'.get b = h.get b
  | [], l, o, n, ρ, h, hk, en, _ => by
    cases l with
    | cons _ _ => cases hk
    | nil => exact ⟨n, ρ, h, [], Nat.le_refl _, en, Le.refl _, ⟨by simp [tot], fun i v hv => by cases hv⟩, rfl, fun _ _ => rfl⟩
  | f :: fs, l, o, n, ρ, h, hk, en, hx => by
    cases l with
    | nil => cases hk
    | cons kE l =>
    obtain ⟨k, E⟩ := kE
    obtain ⟨ho, hc, he, hm, hr⟩ := hk
    obtain ⟨y, hy⟩ := hx f List.mem_cons_self
    obtain ⟨n1, ρ1, h1, a, le1, en1, l1, v1, E1, k1⟩ := he G n ρ h fuel _ y en hy
    obtain ⟨n2, ρ2, h2, b, le2, en2, l2, v2, E2, k2⟩ := fields_enter fs l (o + k) n1 ρ1 h1 hr en1 fun g hg => hx g (List.mem_cons_of_mem _ hg)
    refine ⟨n2, ρ2, h2, a ++ b, by omega, en2, l1.trans l2, ?_, ⟨a, b, rfl, hm _ _ _ _ _ E1 le2 k2, E2⟩, fun c hc => by rw [k2 c (by omega), k1 c hc]⟩
    have := (v1.mono l2).app v2
    rw [ho, hc] at this
    rwa [show (vs.drop o).take k ++ (vs.drop (o + k)).take (tot l) = (vs.drop o).take (tot ((k, E) :: l)) by
      show _ = (vs.drop o).take (k + tot l)
      rw [List.take_add, List.drop_drop]] at this

theorem EntR.struct {t : TypeId} {fs : Array Field} {l : List (Nat × Rel)} (hu : P.underlying t = some (.struct fs)) (hk : FOk enc P W fs.toList 0 l) (hc : P.cellsOf t = tot l) : EntR enc P W t (ELs (l.map (·.2))) := by
  intro G n ρ h fuel vs x en hx
  obtain ⟨xs, m, _, _, hl, hxl, hf⟩ := DataW.trod_struct hu hx
  obtain ⟨n', ρ', h', cs, h1, h2, h3, h4, h5, h6⟩ := fields_enter (vs := vs) (fuel := m) fs.toList l 0 n ρ h hk en fun f hfm => by
    obtain ⟨i, hi⟩ := List.getElem?_of_mem hfm
    have hi' : fs[i]? = some f := by simpa using hi
    have := hf i f hi'
    have hlt : i < xs.length := by rw [hxl]; exact (Array.getElem?_eq_some_iff.1 hi').1
    exact ⟨xs[i], by rw [this, List.getElem?_eq_getElem hlt]⟩
  refine ⟨n', ρ', h', cs, h1, h2, h3, ?_, h5, h6⟩
  rw [List.drop_zero, List.take_of_length_le (by omega)] at h4
  exact h4
end
end Go.Fn
end
section
set_option maxRecDepth 20000
set_option linter.unusedVariables false
namespace Go.Fn
open Go Go.Fw Go.ChangeShapes Go.WideShapes

section
variable {H' : Type} {enc : TypeId × Value → H'} {P : Program} {W : World}

abbrev RelX (α : Type) := H → Nat → List V → α → Prop
def MonoX {α : Type} (C : RelX α) : Prop := ∀ (h h' : H) (n n' : Nat) (cs : List V) (x : α), C h n cs x → n ≤ n' → (∀ b, b < n → h'.get b = h.get b) → C h' n' cs x
def ExE {α : Type} (C : RelX α) : Rel := fun h n cs => ∃ x, C h n cs x
theorem ExE.mono {α : Type} {C : RelX α} (m : MonoX C) : Mono (ExE C) := fun _ _ _ _ _ ⟨x, hx⟩ hn hk => ⟨x, m _ _ _ _ _ _ hx hn hk⟩

theorem elems_enter {α : Type} {C : RelX α} {G s fuel : Nat} {e : TypeId} {a : Addr} {D : Nat → DataW H' × List MemPlace} (he : EntR enc P W e (ExE C)) (hm : MonoX C) : ∀ (m n : Nat) (ρ : Map) (h : H), Entry G W n ρ h →
    (∀ i, i < m → ∃ cs', W.cells? 0 (a.add (i * s)) s = some cs' ∧ DataW.trod enc P W 0 (fun _ => true) true fuel e cs' = some (D i)) →
    ∃ (n' : Nat) (ρ' : Map) (h' : H) (cs : List V) (xs : List α), n ≤ n' ∧ Entry G W n' ρ' h' ∧ Le ρ ρ' ∧ cs.length = m * s ∧ xs.length = m ∧ (∀ (c : Nat) v, cs[c]? = some v → ∃ v', W.cell? (a.add c) = some v' ∧ VR ρ' v v') ∧ (∀ (i : Nat) x, xs[i]? = some x → C h' n' ((cs.drop (i * s)).take s) x) ∧ ∀ b, b < n → h'.get b = h.get b
  | 0, n, ρ, h, en, _ => ⟨n, ρ, h, [], [], Nat.le_refl _, en, Le.refl _, by simp, rfl, (fun c v hv => absurd hv (by simp)), (fun i x hx => absurd hx (by simp)), fun _ _ => rfl⟩
  | m + 1, n, ρ, h, en, hx => by
    obtain ⟨n1, ρ1, h1, cs, xs, le1, en1, l1, hl1, hl2, hc1, hC1, k1⟩ := elems_enter he hm m n ρ h en fun i hi => hx i (by omega)
    obtain ⟨cs', hcs', hy⟩ := hx m (by omega)
    obtain ⟨_, hlen, hcell⟩ := World.cells?_some hcs'
    obtain ⟨n2, ρ2, h2, b, le2, en2, l2, v2, ⟨x, hX⟩, k2⟩ := he G n1 ρ1 h1 fuel _ _ en1 hy
    have hbl : b.length = s := by rw [v2.1, hlen]
    refine ⟨n2, ρ2, h2, cs ++ b, xs ++ [x], by omega, en2, l1.trans l2, by rw [List.length_append, hl1, hbl, Nat.add_mul, Nat.one_mul], by simp [hl2], fun c v hv => ?_, fun i y hy => ?_, fun c hc => by rw [k2 c (by omega), k1 c hc]⟩
    · rcases Nat.lt_or_ge c cs.length with hi | hi
      · rw [List.getElem?_append_left hi] at hv
        obtain ⟨v', q1, q2⟩ := hc1 c v hv
        exact ⟨v', q1, q2.mono l2⟩
      · rw [List.getElem?_append_right hi] at hv
        obtain ⟨v', q1, q2⟩ := v2.2 _ v hv
        have hj := (List.getElem?_eq_some_iff.1 hv).1
        have := hcell (c - cs.length) (by omega)
        rw [q1, Addr.add_add, show m * s + (c - cs.length) = c by omega] at this
        exact ⟨v', this, q2⟩
    · rcases Nat.lt_or_ge i m with hi | hi
      · rw [List.getElem?_append_left (by omega)] at hy
        have hle : i * s + s ≤ cs.length := by
          have := Nat.mul_le_mul_right s hi
          rw [Nat.succ_mul] at this; omega
        rw [List.drop_append_of_le_length (by omega), List.take_append_of_le_length (by rw [List.length_drop]; omega)]
        exact hm _ _ _ _ _ _ (hC1 i y hy) le2 k2
      · have hlt := (List.getElem?_eq_some_iff.1 hy).1
        have hi2 : i = xs.length := by simp at hlt; omega
        subst hi2
        rw [List.getElem?_append_right (Nat.le_refl _), Nat.sub_self] at hy
        cases hy
        rw [hl2, ← hl1, List.drop_left, List.take_of_length_le (by omega)]
        exact hX

/-- A slice, and what is known of its room. -/
def SlX {α : Type} (s : Nat) (C : RelX α) : RelX (List α) := fun h n cs xs => ∃ v, cs = [v] ∧ SlR h n s (C h n) v xs ∧ (v = nsl ∨ ∃ b o c, v = sl b o xs.length c ∧ c < U)
theorem SlX.mono {α : Type} {s : Nat} {C : RelX α} (m : MonoX C) : MonoX (SlX s C) := fun h h' n n' cs xs ⟨v, e, q, r⟩ hn hk => ⟨v, e, Sl.keep q (fun b hb => Nat.lt_of_lt_of_le hb hn) (fun b hb => hk b hb) fun cs y hy => m _ _ _ _ _ _ hy hn hk, r⟩

theorem EntR.slice {α : Type} {C : RelX α} {s : Nat} {t e : TypeId} (hu : P.underlying t = some (.slice e)) (hc : P.cellsOf e = s) (hs : 0 < s) (he : EntR enc P W e (ExE C)) (hm : MonoX C) : EntR enc P W t (ExE (SlX s C)) := by
  intro G n ρ h fuel vs x en hx
  rcases Go.Deep.open_slice hu hx with ⟨h0, _⟩ | ⟨a, len, cap, m, n', D, Pl, h0, _, hl, hmx, hmm, _, hxx⟩
  · subst h0
    exact ⟨n, ρ, h, [nsl], Nat.le_refl _, en, Le.refl _, ⟨rfl, fun i v hv => by
      cases i with
      | zero => cases hv; exact ⟨_, rfl, .nilslice⟩
      | succ i => cases hv⟩, ⟨[], nsl, rfl, ⟨by simp, .inl ⟨rfl, rfl⟩⟩, .inl rfl⟩, fun _ _ => rfl⟩
  · subst h0
    simp only [if_true] at hmm
    subst hmm
    rw [hc] at hxx
    have hcap : m < 9223372036854775808 := by unfold maxLen at hmx; omega
    have hcapU : m < U := by unfold U; omega
    obtain ⟨n1, ρ1, h1, cs, xs, le1, en1, l1, hl1, hl2, hc1, hC1, k1⟩ := elems_enter (D := fun i => (D i, Pl i)) he hm m n ρ h en hxx
    obtain ⟨ρ2, h2, q1, q2, q3, q4⟩ := en1.sliceV a len m cs hl hcapU (fun h0 => by rw [hl1]; exact Nat.mul_pos h0 hs) hc1
    have k2 : ∀ b, b < n1 → h2.get b = h1.get b := fun b hb => by rw [q4, H.get_set_ne _ _ (by omega)]
    refine ⟨n1 + 1, ρ2, h2, [sl n1 0 len m], by omega, q1, l1.trans q2, ⟨rfl, fun i v hv => ?_⟩, ⟨xs.take len, _, rfl, ⟨by rw [List.length_take]; omega, .inr ⟨n1, 0, m, cs, .ro, by rw [List.length_take, Nat.min_eq_left (by omega)], fun hne => ?_, fun i y hy => ?_⟩⟩, .inr ⟨n1, 0, m, by rw [List.length_take, Nat.min_eq_left (by omega)], hcapU⟩⟩, fun b hb => by rw [k2 b (by omega), k1 b hb]⟩
    · cases i with
      | zero => cases hv; exact ⟨_, rfl, q3⟩
      | succ i => cases hv
    · have hm0 : m ≠ 0 := fun q => hne (by rw [List.eq_nil_of_length_eq_zero (l := xs) (by omega)]; simp)
      refine ⟨by omega, by rw [q4, H.get_set_same, if_neg hm0, if_neg hm0], by decide, ?_⟩
      have h2 : (xs.take len).length * s ≤ m * s := Nat.mul_le_mul_right s (by rw [List.length_take]; omega)
      omega
    · rw [Nat.zero_add]
      rw [List.getElem?_take] at hy
      split at hy
      · exact hm _ _ _ _ _ _ (hC1 i y hy) (by omega) k2
      · cases hy

/-- A block that came in whole. -/
theorem Entry.cellsV {G n : Nat} {ρ : Map} {h : H} (e : Entry G W n ρ h) {ab ao : Nat} {cs : List V} (hpos : 0 < cs.length) (hc : ∀ (i : Nat) v, cs[i]? = some v → ∃ v', W.cell? ⟨ab, ao + i, none⟩ = some v' ∧ VR ρ v v') :
    ∃ ρ', Entry G W (n + 1) ρ' (h.set n ⟨cs, .ro⟩) ∧ Le ρ ρ' ∧ VR ρ' (pt n 0) (.pointer (some ⟨ab, ao, none⟩)) := by
  have hn : ρ n = none := by
    have := e.r.dom n
    rw [e.fresh n (Nat.le_refl _)] at this
    cases hq : ρ n with
    | none => rfl
    | some L => rw [hq] at this; cases this
  obtain ⟨v0, hv0⟩ : ∃ v, cs[0]? = some v := ⟨cs[0], by simp [hpos]⟩
  obtain ⟨w0, h00, _⟩ := hc 0 v0 hv0
  obtain ⟨arr, elem, fz, hb⟩ : ∃ arr elem fz, W.heap[ab]? = some (.cells arr elem fz) := by
    unfold World.cell? at h00
    split at h00
    · rename_i c _ _ hh
      exact ⟨_, _, _, hh⟩
    · cases h00
  have hcell : ∀ i v, cs[i]? = some v → ∃ v', arr[ao + i]? = some v' ∧ VR ρ v v' := by
    intro i v hi
    obtain ⟨v', this, hvr⟩ := hc i v hi
    unfold World.cell? at this
    simp only [hb] at this
    exact ⟨v', by simpa using this, hvr⟩
  have hsz : ao + cs.length ≤ arr.size := by
    obtain ⟨u, hu⟩ : ∃ u, cs[cs.length - 1]? = some u := ⟨cs[cs.length - 1], by simp [hpos]⟩
    obtain ⟨_, this, _⟩ := hcell _ _ hu
    have := (Array.getElem?_eq_some_iff.1 this).1
    omega
  exact ⟨_, e.add ⟨ab, ao, ao + cs.length⟩ (B := ⟨cs, .ro⟩) (not_ours_ro _) (fun _ => ⟨⟨arr, elem, fz, hb, fun h => absurd h (not_mine_ro _), hsz, fun i v hi => by
      obtain ⟨v', h1, h2⟩ := hcell i v hi
      exact ⟨v', h1, h2.mono (Map.add_le _ hn)⟩⟩, Nat.le_refl _, fun h => by cases h⟩), Map.add_le _ hn, .ptr n 0 ⟨ab, ao, ao + cs.length⟩ (Map.add_same _ _ _)⟩

/-- A pointer comes in. -/
theorem ptr_enter {E : Rel} {G n base s : Nat} {ρ : Map} {h : H} {t e : TypeId} {v : Value} {d : DataW H'} {ps : List MemPlace} (en : Entry G W n ρ h) (hu : P.underlying t = some (.pointer e)) (hc : P.cellsOf e = s) (hs : 0 < s) (he : EntR enc P W e E) (hm : Mono E) (hval : Value.okWide P W .any base t v) (hd : DataW.Trod enc P W 0 (fun _ => true) true t v d ps) :
    ∃ n' ρ' h' u, n ≤ n' ∧ Entry G W n' ρ' h' ∧ Le ρ ρ' ∧ VR ρ' u v ∧ (u = .pointer none ∨ ∃ b cs, u = pt b 0 ∧ b < n' ∧ h'.get b = some ⟨cs, .ro⟩ ∧ E h' n' cs) ∧ ∀ b, b < n → h'.get b = h.get b := by
  rcases open_ptr hu (by omega) hval hd with ⟨rfl, _⟩ | ⟨b, off, cs, y, fuel, rfl, _, _, hl, hcell, hy⟩
  · exact ⟨n, ρ, h, .pointer none, Nat.le_refl _, en, Le.refl _, .nilptr, .inl rfl, fun _ _ => rfl⟩
  · obtain ⟨n1, ρ1, h1, us, le1, en1, l1, v1, E1, k1⟩ := he G n ρ h fuel _ _ en hy
    have hul : us.length = s := by rw [v1.1, hl, hc]
    obtain ⟨ρ2, en2, l2, w2⟩ := Entry.cellsV en1 (ab := b) (ao := off) (cs := us) (by omega) fun i v hv => by
      obtain ⟨v', q1, q2⟩ := v1.2 i v hv
      have hi := (List.getElem?_eq_some_iff.1 hv).1
      exact ⟨v', by rw [hcell i (by omega)]; exact q1, q2⟩
    have k2 : ∀ c, c < n1 → (h1.set n1 ⟨us, .ro⟩).get c = h1.get c := fun c hc => H.get_set_ne _ _ (by omega)
    exact ⟨n1 + 1, ρ2, _, pt n1 0, by omega, en2, l1.trans l2, w2, .inr ⟨n1, us, rfl, by omega, H.get_set_same _ _ _, hm _ _ _ _ _ E1 (by omega) k2⟩, fun c hc => by rw [k2 c (by omega), k1 c hc]⟩
end
end Go.Fn
end
section
set_option maxRecDepth 100000
namespace Go.Fn
open Go Go.Fw Go.Proofs
theorem rs_begun : gaveTrue ((L21_begun 200000).run 0 .leaf) = true := by kernel_rfl
end Go.Fn
end
section
set_option maxRecDepth 20000
set_option linter.unusedVariables false
namespace Go.Fn
open Go Go.Fw Go.ChangeShapes Go.WideShapes

section
variable {H' : Type} {enc : TypeId × Value → H'} {P : Program} {W : World}

def offsT : Nat → List (TypeId × Nat) → List (Nat × TypeId)
  | _, [] => []
  | o, x :: l => (o, x.1) :: offsT (o + x.2) l
def sumT : List (TypeId × Nat) → Nat
  | [] => 0
  | x :: l => x.2 + sumT l
/-- A struct of these types. -/
def structT (P : Program) (t : TypeId) (l : List (TypeId × Nat)) : Bool :=
  match P.underlying t with
  | some (.struct fs) => decide (fs.toList.map (fun f => (f.offset, f.type)) = offsT 0 l) && l.all (fun x => decide (P.cellsOf x.1 = x.2)) && decide (P.cellsOf t = sumT l)
  | _ => false

theorem fok_of : ∀ (fs : List Field) (l : List (TypeId × Nat × Rel)) (o : Nat), fs.map (fun f => (f.offset, f.type)) = offsT o (l.map fun x => (x.1, x.2.1)) → (∀ x ∈ l, P.cellsOf x.1 = x.2.1 ∧ EntR enc P W x.1 x.2.2 ∧ Mono x.2.2) → FOk enc P W fs o (l.map (·.2))
  | [], [], _, _, _ => trivial
  | [], x :: l, _, h, _ => by simp [offsT] at h
  | f :: fs, [], _, h, _ => by simp [offsT] at h
  | f :: fs, x :: l, o, h, hx => by
    obtain ⟨t, k, E⟩ := x
    simp only [List.map_cons, offsT, List.cons.injEq, Prod.mk.injEq] at h
    obtain ⟨⟨h1, h2⟩, h3⟩ := h
    obtain ⟨q1, q2, q3⟩ := hx _ List.mem_cons_self
    subst h2
    exact ⟨h1, q1, q2, q3, fok_of fs l _ h3 fun y hy => hx y (List.mem_cons_of_mem _ hy)⟩
theorem tot_sum : ∀ (l : List (TypeId × Nat × Rel)), tot (l.map (·.2)) = sumT (l.map fun x => (x.1, x.2.1))
  | [] => rfl
  | x :: l => by
    obtain ⟨t, k, E⟩ := x
    show k + tot _ = k + sumT _
    rw [tot_sum l]
theorem EntR.structX {t : TypeId} (l : List (TypeId × Nat × Rel)) (hT : structT P t (l.map fun x => (x.1, x.2.1)) = true) (hE : ∀ x ∈ l, EntR enc P W x.1 x.2.2 ∧ Mono x.2.2) : EntR enc P W t (ELs (l.map fun x => x.2.2)) := by
  unfold structT at hT
  split at hT
  · rename_i fs hu
    simp only [Bool.and_eq_true, decide_eq_true_eq, List.all_eq_true] at hT
    obtain ⟨⟨h1, h2⟩, h3⟩ := hT
    have := EntR.struct (enc := enc) (W := W) hu (fok_of fs.toList l 0 h1 fun x hx => ⟨h2 (x.1, x.2.1) (List.mem_map.2 ⟨x, hx, rfl⟩), hE x hx⟩) (by rw [h3, tot_sum])
    rw [List.map_map] at this
    exact this
  · cases hT

/-! ## The shapes of a program -/

def IntX : RelX Int := fun _ _ cs z => IntC cs z
def TyX : RelX Ty := fun _ _ cs t => TyC cs t
theorem IntX.mono : MonoX IntX := fun _ _ _ _ _ _ h _ _ => h
theorem TyX.mono : MonoX TyX := fun _ _ _ _ _ _ h _ _ => h
theorem SlR.more {h h' : H} {n n' s : Nat} {α : Type} {E E' : List V → α → Prop} {v : V} {xs : List α} (x : SlR h n s E v xs) (hn : n ≤ n') (k : ∀ b, b < n → h'.get b = h.get b) (hE : ∀ cs y, E cs y → E' cs y) : SlR h' n' s E' v xs := Sl.keep x (fun b hb => Nat.lt_of_lt_of_le hb hn) k hE
theorem InsX.mono : MonoX InsC := fun _ _ _ _ _ _ ⟨v, e, s, r⟩ hn hk => ⟨v, e, SlR.more s hn hk fun _ _ h => h, r⟩
theorem BloX.mono : MonoX BloC := fun _ _ _ _ _ _ ⟨v, e, s, r⟩ hn hk => ⟨v, e, SlR.more s hn hk fun cs y hy => InsX.mono _ _ _ _ _ _ hy hn hk, r⟩
theorem FunX.mono : MonoX FunC := fun _ _ _ _ _ _ ⟨v, w, e, s, t, r⟩ hn hk => ⟨v, w, e, SlR.more s hn hk fun _ _ h => h, SlR.more t hn hk fun cs y hy => BloX.mono _ _ _ _ _ _ hy hn hk, r⟩
theorem SgX.mono : MonoX SgC := fun _ _ _ _ _ _ ⟨v, e, s, r⟩ hn hk => ⟨v, e, SlR.more s hn hk fun _ _ h => h, r⟩
theorem ImpX.mono : MonoX ImpC := fun _ _ _ _ _ _ ⟨v, e, s, r⟩ hn hk => ⟨v, e, SlR.more s hn hk fun _ _ h => h, r⟩
theorem RecX.mono : MonoX RecC := fun _ _ _ _ _ _ ⟨v, e, s⟩ hn hk => ⟨v, e, SlR.more s hn hk fun _ _ h => h⟩
theorem IfX.mono : MonoX IfC := fun _ _ _ _ _ _ ⟨v, e, s⟩ hn hk => ⟨v, e, SlR.more s hn hk fun _ _ h => h⟩

def PgX : RelX Pg := fun h n cs x => ∃ vr vs vi vm vf, cs = [vr, vs, vi, vm, vf, i64 x.main] ∧ SlR h n 1 (RecC h n) vr x.recs ∧ SlR h n 3 (SgC h n) vs x.sigs ∧ SlR h n 1 (IfC h n) vi x.ifs ∧ SlR h n 3 (ImpC h n) vm x.imps ∧ SlR h n 3 (FunC h n) vf x.funcs ∧ Fit x.main
theorem PgX.mono : MonoX PgX := fun _ _ _ _ _ _ ⟨vr, vs, vi, vm, vf, e, h1, h2, h3, h4, h5, h6⟩ hn hk =>
  ⟨vr, vs, vi, vm, vf, e, SlR.more h1 hn hk fun cs y hy => RecX.mono _ _ _ _ _ _ hy hn hk, SlR.more h2 hn hk fun cs y hy => SgX.mono _ _ _ _ _ _ hy hn hk, SlR.more h3 hn hk fun cs y hy => IfX.mono _ _ _ _ _ _ hy hn hk, SlR.more h4 hn hk fun cs y hy => ImpX.mono _ _ _ _ _ _ hy hn hk, SlR.more h5 hn hk fun cs y hy => FunX.mono _ _ _ _ _ _ hy hn hk, h6⟩
end

section
open Go.Proofs
variable {H' : Type} {enc : TypeId × Value → H'} {W : World}

theorem e_int : EntR enc Try.prog W 3 IntE := EntR.int (by kernel_rfl)
theorem e_i64 : EntR enc Try.prog W 2 (ExE IntX) := (EntR.int (by kernel_rfl)).imp fun _ _ _ h => h
theorem e_intX : EntR enc Try.prog W 3 (ExE IntX) := e_int.imp fun _ _ _ h => h
theorem e_ints : EntR enc Try.prog W 43 (ExE (SlX 1 IntX)) := EntR.slice (by kernel_rfl) (by kernel_rfl) (by decide) e_intX IntX.mono
theorem e_i64s : EntR enc Try.prog W 23 (ExE (SlX 1 IntX)) := EntR.slice (by kernel_rfl) (by kernel_rfl) (by decide) e_i64 IntX.mono
theorem e_ty : EntR enc Try.prog W 78 (ExE TyX) := (EntR.structX [(3, 1, IntE), (3, 1, IntE)] (by kernel_rfl) (by
  intro x hx
  simp only [List.mem_cons, List.not_mem_nil, or_false, or_self] at hx
  subst hx
  exact ⟨e_int, IntE.mono⟩)).imp fun _ _ cs ⟨a1, b1, e1, ⟨z1, h1, f1⟩, a2, b2, e2, ⟨z2, h2, f2⟩, e3⟩ => by
    subst e3 h1 h2 e2 e1
    exact ⟨(z1, z2), rfl, f1, f2⟩
theorem e_tys : EntR enc Try.prog W 57 (ExE (SlX 2 TyX)) := EntR.slice (by kernel_rfl) (by kernel_rfl) (by decide) e_ty TyX.mono
theorem e_rec : EntR enc Try.prog W 57 (ExE RecC) := e_tys.imp fun _ _ _ ⟨xs, v, e, s, _⟩ => ⟨xs, v, e, s⟩
theorem e_recs : EntR enc Try.prog W 61 (ExE (SlX 1 RecC)) := EntR.slice (by kernel_rfl) (by kernel_rfl) (by decide) e_rec RecX.mono
theorem e_sig : EntR enc Try.prog W 80 (ExE SgC) := (EntR.structX [(57, 1, ExE (SlX 2 TyX)), (78, 2, ExE TyX)] (by kernel_rfl) (by
  intro x hx
  simp only [List.mem_cons, List.not_mem_nil, or_false] at hx
  rcases hx with rfl | rfl
  · exact ⟨e_tys, ExE.mono (SlX.mono TyX.mono)⟩
  · exact ⟨e_ty, ExE.mono TyX.mono⟩)).imp fun _ _ cs ⟨a1, b1, e1, ⟨xs, v, h1, s1, _⟩, a2, b2, e2, ⟨t, h2, f1, f2⟩, e3⟩ => by
    subst e3 h1 h2 e2 e1
    exact ⟨⟨xs, t⟩, v, rfl, s1, f1, f2⟩
theorem e_sigs : EntR enc Try.prog W 62 (ExE (SlX 3 SgC)) := EntR.slice (by kernel_rfl) (by kernel_rfl) (by decide) e_sig SgX.mono
theorem e_if : EntR enc Try.prog W 104 (ExE IfC) := (EntR.structX [(43, 1, ExE (SlX 1 IntX))] (by kernel_rfl) (by
  intro x hx
  simp only [List.mem_cons, List.not_mem_nil, or_false] at hx
  subst hx
  exact ⟨e_ints, ExE.mono (SlX.mono IntX.mono)⟩)).imp fun _ _ cs ⟨a1, b1, e1, ⟨xs, v, h1, s1, _⟩, e3⟩ => by
    subst e3 h1 e1
    exact ⟨xs, v, rfl, s1⟩
theorem e_ifs : EntR enc Try.prog W 63 (ExE (SlX 1 IfC)) := EntR.slice (by kernel_rfl) (by kernel_rfl) (by decide) e_if IfX.mono
theorem e_imp : EntR enc Try.prog W 106 (ExE ImpC) := (EntR.structX [(3, 1, IntE), (3, 1, IntE), (43, 1, ExE (SlX 1 IntX))] (by kernel_rfl) (by
  intro x hx
  simp only [List.mem_cons, List.not_mem_nil, or_false] at hx
  rcases hx with rfl | rfl | rfl
  · exact ⟨e_int, IntE.mono⟩
  · exact ⟨e_int, IntE.mono⟩
  · exact ⟨e_ints, ExE.mono (SlX.mono IntX.mono)⟩)).imp fun _ _ cs ⟨a1, b1, e1, ⟨z1, h1, f1⟩, a2, b2, e2, ⟨z2, h2, f2⟩, a3, b3, e3, ⟨xs, v, h3, s1, _⟩, e4⟩ => by
    subst e4 h1 h2 h3 e3 e2 e1
    exact ⟨⟨z1, z2, xs⟩, v, rfl, s1, f1, f2⟩
theorem e_imps : EntR enc Try.prog W 64 (ExE (SlX 3 ImpC)) := EntR.slice (by kernel_rfl) (by kernel_rfl) (by decide) e_imp ImpX.mono
theorem e_ins : EntR enc Try.prog W 49 (ExE InsC) := (EntR.structX [(3, 1, IntE), (3, 1, IntE), (3, 1, IntE), (3, 1, IntE), (3, 1, IntE), (43, 1, ExE (SlX 1 IntX))] (by kernel_rfl) (by
  intro x hx
  simp only [List.mem_cons, List.not_mem_nil, or_false] at hx
  rcases hx with rfl | rfl | rfl | rfl | rfl | rfl
  all_goals first | exact ⟨e_int, IntE.mono⟩ | exact ⟨e_ints, ExE.mono (SlX.mono IntX.mono)⟩)).imp fun _ _ cs ⟨a1, b1, e1, ⟨z1, h1, f1⟩, a2, b2, e2, ⟨z2, h2, f2⟩, a3, b3, e3, ⟨z3, h3, f3⟩, a4, b4, e4, ⟨z4, h4, f4⟩, a5, b5, e5, ⟨z5, h5, f5⟩, a6, b6, e6, ⟨xs, v, h6, s1, _⟩, e7⟩ => by
    subst e7 h1 h2 h3 h4 h5 h6 e6 e5 e4 e3 e2 e1
    exact ⟨⟨z1, z2, z3, z4, z5, xs⟩, v, rfl, s1, f1, f2, f3, f4, f5⟩
theorem e_code : EntR enc Try.prog W 68 (ExE (SlX 6 InsC)) := EntR.slice (by kernel_rfl) (by kernel_rfl) (by decide) e_ins InsX.mono
theorem e_blo : EntR enc Try.prog W 70 (ExE BloC) := (EntR.structX [(68, 1, ExE (SlX 6 InsC)), (3, 1, IntE), (3, 1, IntE), (3, 1, IntE), (3, 1, IntE)] (by kernel_rfl) (by
  intro x hx
  simp only [List.mem_cons, List.not_mem_nil, or_false] at hx
  rcases hx with rfl | rfl | rfl | rfl | rfl
  all_goals first | exact ⟨e_int, IntE.mono⟩ | exact ⟨e_code, ExE.mono (SlX.mono InsX.mono)⟩)).imp fun _ _ cs ⟨a0, b0, e0, ⟨xs, v, h0, s1, _⟩, a1, b1, e1, ⟨z1, h1, f1⟩, a2, b2, e2, ⟨z2, h2, f2⟩, a3, b3, e3, ⟨z3, h3, f3⟩, a4, b4, e4, ⟨z4, h4, f4⟩, e5⟩ => by
    subst e5 h0 h1 h2 h3 h4 e4 e3 e2 e1 e0
    exact ⟨⟨xs, z1, z2, z3, z4⟩, v, rfl, s1, f1, f2, f3, f4⟩
theorem e_blos : EntR enc Try.prog W 58 (ExE (SlX 5 BloC)) := EntR.slice (by kernel_rfl) (by kernel_rfl) (by decide) e_blo BloX.mono
theorem e_fun : EntR enc Try.prog W 60 (ExE FunC) := (EntR.structX [(3, 1, IntE), (57, 1, ExE (SlX 2 TyX)), (58, 1, ExE (SlX 5 BloC))] (by kernel_rfl) (by
  intro x hx
  simp only [List.mem_cons, List.not_mem_nil, or_false] at hx
  rcases hx with rfl | rfl | rfl
  · exact ⟨e_int, IntE.mono⟩
  · exact ⟨e_tys, ExE.mono (SlX.mono TyX.mono)⟩
  · exact ⟨e_blos, ExE.mono (SlX.mono BloX.mono)⟩)).imp fun _ _ cs ⟨a1, b1, e1, ⟨z1, h1, f1⟩, a2, b2, e2, ⟨rs, v, h2, s1, _⟩, a3, b3, e3, ⟨bs, w, h3, s2, _⟩, e4⟩ => by
    subst e4 h1 h2 h3 e3 e2 e1
    exact ⟨⟨z1, rs, bs⟩, v, w, rfl, s1, s2, f1⟩
theorem e_funs : EntR enc Try.prog W 65 (ExE (SlX 3 FunC)) := EntR.slice (by kernel_rfl) (by kernel_rfl) (by decide) e_fun FunX.mono
theorem e_prog : EntR enc Try.prog W 67 (ExE PgX) := (EntR.structX [(61, 1, ExE (SlX 1 RecC)), (62, 1, ExE (SlX 3 SgC)), (63, 1, ExE (SlX 1 IfC)), (64, 1, ExE (SlX 3 ImpC)), (65, 1, ExE (SlX 3 FunC)), (3, 1, IntE)] (by kernel_rfl) (by
  intro x hx
  simp only [List.mem_cons, List.not_mem_nil, or_false] at hx
  rcases hx with rfl | rfl | rfl | rfl | rfl | rfl
  · exact ⟨e_recs, ExE.mono (SlX.mono RecX.mono)⟩
  · exact ⟨e_sigs, ExE.mono (SlX.mono SgX.mono)⟩
  · exact ⟨e_ifs, ExE.mono (SlX.mono IfX.mono)⟩
  · exact ⟨e_imps, ExE.mono (SlX.mono ImpX.mono)⟩
  · exact ⟨e_funs, ExE.mono (SlX.mono FunX.mono)⟩
  · exact ⟨e_int, IntE.mono⟩)).imp fun _ _ cs ⟨a1, b1, e1, ⟨xs1, v1, h1, s1, _⟩, a2, b2, e2, ⟨xs2, v2, h2, s2, _⟩, a3, b3, e3, ⟨xs3, v3, h3, s3, _⟩, a4, b4, e4, ⟨xs4, v4, h4, s4, _⟩, a5, b5, e5, ⟨xs5, v5, h5, s5, _⟩, a6, b6, e6, ⟨z, h6, f6⟩, e7⟩ => by
    subst e7 h1 h2 h3 h4 h5 h6 e6 e5 e4 e3 e2 e1
    exact ⟨⟨xs1, xs2, xs3, xs4, xs5, z⟩, v1, v2, v3, v4, v5, rfl, s1, s2, s3, s4, s5, f6⟩
end
end Go.Fn
end
section
set_option maxRecDepth 20000
set_option linter.unusedVariables false
namespace Go.Fn
open Go Go.Fw Go.ChangeShapes Go.WideShapes Go.Proofs

theorem rs_run {n : Nat} {h : H} {u0 u1 : V} {z : Int} (f : Fr n h) (h0 : u0 = .pointer none ∨ ∃ b cs, u0 = pt b 0 ∧ b < n ∧ h.get b = some ⟨cs, .ro⟩ ∧ ExE PgX h n cs) (h1 : ∃ xs, SlX 1 IntX h n [u1] xs) : ∃ n' h', (RS 200000 u0 u1 (i64 z)).run n h = some (bo true, n', h') := by
  have w : Wp (RS 200000 u0 u1 (i64 z)) n h fun v _ _ => v = bo true := by
    unfold RS
    refine begun_once rs_begun ?_
    refine (Wp.eq st_not).2 (Wp.bool.2 ⟨fun h => absurd h (by decide), fun _ => ?_⟩)
    rcases h0 with rfl | ⟨b, cs, rfl, hb, hg, P, vr, vs, vi, vm, vf, rfl, s1, s2, s3, s4, s5, s6⟩
    · unfold RS_tail
      refine Wp.cl' (right_nil ?_)
      refine (Wp.eq st_not).2 (Wp.bool.2 ⟨fun _ => Wp.retI.2 rfl, fun h => absurd h (by decide)⟩)
    · obtain ⟨xs, v, e, so, hcap⟩ := h1
      cases e
      exact tail_wp (n0 := n) ⟨hb, hg, s1, s2, s3, s4, s5, s6⟩ so hcap (by decide) f (Nat.le_refl _) fun _ _ => rfl
  obtain ⟨v, n', h', e, rfl⟩ := w
  exact ⟨n', h', e⟩

section
variable {H' : Type} {enc : TypeId × Value → H'} {W : World}

theorem rs_enter {base : Nat} {vs : List Value} {ds : List (DataW H')} {p : List MemPlace} (hval : ∀ (j : Nat) t v, [22, 23, 3][j]? = some t → vs[j]? = some v → Value.okWide Try.prog W .any base t v) (hd : DataW.TrodAll enc Try.prog W 0 (fun _ => true) true [22, 23, 3] vs ds p) :
    ∃ n ρ h u0 u1 u2, Entry 0 W n ρ h ∧ WL ρ [u0, u1, u2] vs ∧ ds.length = 3 ∧ ∃ n' h', (RS 200000 u0 u1 u2).run n h = some (bo true, n', h') := by
  obtain ⟨v0, vs1, d0, ds1, p0, q0, rfl, rfl, _, hd0, hr0⟩ := trodAll_cons hd
  obtain ⟨v1, vs2, d1, ds2, p1, q1, rfl, rfl, _, hd1, hr1⟩ := trodAll_cons hr0
  obtain ⟨v2, vs3, d2, ds3, p2, q2, rfl, rfl, _, hd2, hr2⟩ := trodAll_cons hr1
  obtain ⟨rfl, rfl, _⟩ := trodAll_nil hr2
  obtain ⟨n1, ρ1, h1, u0, le1, en1, l1, w0, c0, k1⟩ := ptr_enter (enc := enc) (s := 6) (Entry.nil W) (t := 22) (e := 67) (by kernel_rfl) (by kernel_rfl) (by decide) e_prog (ExE.mono PgX.mono) (hval 0 22 v0 rfl rfl) hd0
  obtain ⟨a1, len1, cap1, rfl⟩ := okWide_slice (t := 23) (e := 2) (by kernel_rfl) (hval 1 23 v1 rfl rfl)
  obtain ⟨fuel1, hf1⟩ := hd1
  obtain ⟨n2, ρ2, h2, cs2, le2, en2, l2, w1, ⟨xs, u1, rfl, so, hcap⟩, k2⟩ := e_i64s 0 n1 ρ1 h1 fuel1 _ _ en1 hf1
  obtain ⟨z, rfl, _⟩ := open_int (t := 3) (k := .i64) (by kernel_rfl) (hval 2 3 v2 rfl rfl) hd2
  obtain ⟨v', e1, e2⟩ := w1.2 0 u1 rfl
  have e1 : Value.slice a1 len1 cap1 = v' := by simpa [Value.cells] using e1
  subst e1
  refine ⟨n2, ρ2, h2, u0, u1, i64 z, en2, WL.cons (w0.mono l2).weak (WL.cons e2.weak (WL.cons (VR.int _ _).weak WL.nil)), rfl, ?_⟩
  refine rs_run (fun b hb => en2.fresh b hb) ?_ ⟨xs, u1, rfl, so, hcap⟩
  rcases c0 with rfl | ⟨b, cs, rfl, hb, hg, hE⟩
  · exact .inl rfl
  · exact .inr ⟨b, cs, rfl, by omega, by rw [k2 b hb, hg], ExE.mono PgX.mono _ _ _ _ _ hE le2 k2⟩
end
end Go.Fn
end
