/-
  The code of a function, by what comes behind each place of it.
-/
import Derived.Test.YtdomcfoabnhlfaaFwN
namespace Go.Fw

/-- What is fixed while a function's code is gone through. -/
structure Ctx where
  P : Program
  G : Nat
  E : Env
  N : Nat
  ρ : Map
  h : H
  w : World
  z : Value × Nat × H

/-- The place behind a piece of code, left in a way e: what is known of the temporaries is Γ, and what is left to do is m. -/
def OKq (c : Ctx) (Q : Exit → Act → World → Prop) (e : Exit) (Γ : List (Nat × Value)) (m : M Value) : Prop :=
  ∀ n h ρ w a, m n h = some c.z → R c.G ρ h w → Ext c.ρ c.h c.w ρ h w → Live ρ c.N Γ a → a.defers = [] → Q e a w

/-- The place ahead of a piece of code. -/
def OKc (c : Ctx) (x : Code) (Γ : List (Nat × Value)) (m : M Value) (Q : Exit → Act → World → Prop) : Prop :=
  ∀ n h ρ w a, m n h = some c.z → R c.G ρ h w → Ext c.ρ c.h c.w ρ h w → Live ρ c.N Γ a → a.defers = [] → x.wp c.P Q a w

section
variable {c : Ctx} {Q : Exit → Act → World → Prop} {Γ : List (Nat × Value)} {m : M Value}

theorem rSkip (h : OKq c Q .normal Γ m) : OKc c .skip Γ m Q := fun _ _ _ _ _ e r x l d => wp_skip (h _ _ _ _ _ e r x l d)
theorem rLabel {k : Nat} (h : OKq c Q .normal Γ m) : OKc c (.label k) Γ m Q := fun _ _ _ _ _ e r x l d => wp_label (h _ _ _ _ _ e r x l d)
theorem rExit {id : Nat} (h : OKq c Q (.exit id) Γ m) : OKc c (.exit id) Γ m Q := fun _ _ _ _ _ e r x l d => wp_exit (h _ _ _ _ _ e r x l d)
theorem rRet (h : OKq c Q .ret Γ m) : OKc c .ret Γ m Q := fun _ _ _ _ _ e r x l d => wp_ret (h _ _ _ _ _ e r x l d)
theorem rSeq {x y : Code} (h : OKc c x Γ m (Exit.then (fun a w => y.wp c.P Q a w) Q)) : OKc c (.seq x y) Γ m Q := fun _ _ _ _ _ e r x l d => wp_seq (h _ _ _ _ _ e r x l d)
theorem rThen {y : Code} (h : OKc c y Γ m Q) : OKq c (Exit.then (fun a w => y.wp c.P Q a w) Q) .normal Γ m := fun _ _ _ _ _ e r x l d => h _ _ _ _ _ e r x l d
theorem rBlock {id : Nat} {x : Code} (h : OKc c x Γ m (Exit.inBlock id Q)) : OKc c (.block id x) Γ m Q := fun _ _ _ _ _ e r x l d => wp_block (h _ _ _ _ _ e r x l d)
theorem rOut {id : Nat} (h : OKq c Q .normal Γ m) : OKq c (Exit.inBlock id Q) (.exit id) Γ m := fun _ _ _ _ _ e r x l d => by
  show if id = id then _ else _
  rw [if_pos rfl]
  exact h _ _ _ _ _ e r x l d
theorem rPast {id id' : Nat} (hne : Nat.beq id' id = false) (h : OKq c Q (.exit id') Γ m) : OKq c (Exit.inBlock id Q) (.exit id') Γ m := fun _ _ _ _ _ e r x l d => by
  show if id' = id then _ else _
  rw [if_neg (Nat.ne_of_beq_eq_false hne)]
  exact h _ _ _ _ _ e r x l d

theorem rFail {x : Code} : OKc c x Γ fail Q := fun _ _ _ _ _ e => by cases e
theorem qFail {ex : Exit} : OKq c Q ex Γ fail := fun _ _ _ _ _ e => by cases e

/-- What is known of some of the temporaries. -/
theorem Live.some {ρ : Map} {N : Nat} {a : Act} (l : Live ρ N Γ a) (ts : List Nat) : Live ρ N (ts.map fun t => (t, look Γ t)) a := by
  refine ⟨l.size, fun t => ?_⟩
  have : look (ts.map fun t => (t, look Γ t)) t = undef ∨ look (ts.map fun t => (t, look Γ t)) t = look Γ t := by
    induction ts with
    | nil => exact .inl rfl
    | cons s ts ih =>
      simp only [List.map_cons, look]
      split
      · rename_i e; subst e; exact .inr rfl
      · exact ih
  rcases this with h | h
  · exact .inl (.inl h)
  · rw [h]; exact l.at_ t

theorem OKq.less {ex : Exit} (ts : List Nat) (h : OKq c Q ex (ts.map fun t => (t, look Γ t)) m) : OKq c Q ex Γ m := fun _ _ _ _ _ e r x l d => h _ _ _ _ _ e r x (l.some ts) d
theorem OKc.less {x : Code} (ts : List Nat) (h : OKc c x (ts.map fun t => (t, look Γ t)) m Q) : OKc c x Γ m Q := fun _ _ _ _ _ e r x l d => h _ _ _ _ _ e r x (l.some ts) d

theorem rRegion (hE : EnvOK c.P c.G c.E) (ts : List Nat) {id : Nat} {ops : Array Oper} (K : List (Nat × Value) → M Value) (hm : m = runK c.P c.G c.E c.N ops (List.range ops.size) Γ K)
    (hK : ∀ Γ', OKq c Q .normal (ts.map fun t => (t, look Γ' t)) (K Γ')) : OKc c (.region id ops false) Γ m Q := by
  intro n h ρ w a e r x l d
  rw [hm] at e
  obtain ⟨Γ', n', h', e1, e2⟩ := runK_runL _ _ _ _ e
  refine wp_region (runL_wpOps hE _ ρ h w Γ Γ' a n n' h' r l e1 fun a' ρ' w' l' d' r' x' => ?_)
  exact (OKq.less ts (hK Γ')) _ _ _ _ _ e2 r' (x.trans x') l' (d'.trans d)

theorem rDraw (hmix : c.P.follows .mixedOrders = true) (hE : EnvOK c.P c.G c.E) (ts : List Nat) {id : Nat} {ops : Array Oper} (C : List Nat) (hg : goodOrder ops C = true) (K : List (Nat × Value) → M Value)
    (hm : m = drawK c.P c.G c.E c.N ops (bef ops) C [] Γ K) (hK : ∀ Γ', OKq c Q .normal (ts.map fun t => (t, look Γ' t)) (K Γ')) : OKc c (.region id ops true) Γ m Q := by
  intro n h ρ w a e r x l d
  rw [hm] at e
  have hnd : C.Pairwise (· ≠ ·) := by
    have := hg
    simp only [goodOrder, Bool.and_eq_true] at this
    exact (goodOrder_pairs this.2).imp fun h => h.1
  obtain ⟨β, ε, Γ2, n2, h2, hc, _, hrg, e2⟩ := drawK_crun C [] Γ n h hnd e
  refine draw_wp hmix hE hg hrg hc r l fun a' ρ' w' l' d' r' x' => ?_
  exact (OKq.less ts (hK Γ2)) _ _ _ _ _ e2 r' (x.trans x') l' (d'.trans d)

theorem rCond {o : Operand} {x y : Code} (mt mf : M Value) (hm : m = onB (ev c.G Γ o) mt mf) (hx : OKc c x Γ mt Q) (hy : OKc c y Γ mf Q) : OKc c (.cond o x y) Γ m Q := by
  intro n h ρ w a e r xx l d
  rw [hm] at e
  have ho := ev_sim r l o
  rcases onB_some e with ⟨hb, e⟩ | ⟨hb, e⟩
  · rw [hb] at ho
    exact wp_cond_true ho.bool_inv (hx _ _ _ _ _ e r xx l d)
  · rw [hb] at ho
    exact wp_cond_false ho.bool_inv (hy _ _ _ _ _ e r xx l d)

/-- A loop, by how many rounds are left at the most. -/
theorem rLoop {σ : Type} (Γs : σ → List (Nat × Value)) (sh : Nat → σ → M Value) (h0 : ∀ s, sh 0 s = fail) {body : Code}
    (hb : ∀ (I : Nat → Act → World → Prop), (∀ k s, OKq c (fun _ a w => I k a w) .normal (Γs s) (sh k s)) → ∀ k s, OKc c body (Γs s) (sh (k + 1) s) (Exit.then (fun a w => I k a w) Q)) (F : Nat) (s : σ) :
    OKc c (.loop body) (Γs s) (sh F s) Q := by
  intro n h ρ w a e r x l d b' k' cs
  let I : Nat → Act → World → Prop := fun k a w => ∃ s n h ρ, sh k s n h = some c.z ∧ R c.G ρ h w ∧ Ext c.ρ c.h c.w ρ h w ∧ Live ρ c.N (Γs s) a ∧ a.defers = []
  have hI : ∀ k s, OKq c (fun _ a w => I k a w) .normal (Γs s) (sh k s) := fun k s n h ρ w a e r x l d => ⟨s, n, h, ρ, e, r, x, l, d⟩
  have round := hb I hI
  have key : ∀ k a w, I k a w → ∃ e a' w', Q e a' w' ∧ Arrives c.P (lone (b'.at a (.code body :: .inLoop body :: k')) cs w) b' k' cs e a' w' := by
    intro k
    induction k with
    | zero =>
      rintro a w ⟨s, n, h, ρ, e, _⟩
      rw [h0] at e; cases e
    | succ k ih =>
      rintro a w ⟨s, n, h, ρ, e, r, x, l, d⟩
      obtain ⟨e, a₁, w₁, hq, harr⟩ := round k s n h ρ w a e r x l d b' (.inLoop body :: k') cs
      cases e with
      | normal =>
        obtain ⟨e₂, a₂, w₂, hq₂, harr₂⟩ := ih a₁ w₁ hq
        exact ⟨e₂, a₂, w₂, hq₂, .of_steps (Steps.trans harr (.one step_inLoop)) harr₂⟩
      | exit id => exact ⟨_, a₁, w₁, hq, .pass (x := .inLoop body) rfl (fun _ _ => .inl (by simp)) harr⟩
      | goto l => exact ⟨_, a₁, w₁, hq, .pass (x := .inLoop body) rfl (fun _ _ => .inl (by simp)) harr⟩
      | ret => exact ⟨_, a₁, w₁, hq, .pass (x := .inLoop body) rfl (fun _ _ => .inl (by simp)) harr⟩
      | panic ch => exact ⟨_, a₁, w₁, hq, .pass (x := .inLoop body) rfl (fun _ _ => .inl (by simp)) harr⟩
      | outgrown => exact ⟨_, a₁, w₁, hq, .pass (x := .inLoop body) rfl (fun _ _ => .inl (by simp)) harr⟩
  obtain ⟨e, a', w', hq, harr⟩ := key F a w ⟨s, n, h, ρ, e, r, x, l, d⟩
  exact ⟨e, a', w', hq, .of_steps (.one step_loop) harr⟩
end

/-! ## The whole function -/

/-- No tuple: what may stand in a tuple of results. -/
def stv : Value → Bool
  | .tuple _ => false
  | _ => true

section
variable (P : Program) (G : Nat) (E : Env)

/-- The results, one by one. -/
def resK {β : Type} : List ResultVar → List (Nat × Value) → (List Value → M β) → M β
  | [], _, K => K []
  | .tmp t :: r, Γ, K => resK r Γ fun vs => K (look Γ t :: vs)
  | .cell a t :: r, Γ, K => bnd (aop P G E Γ (.load t (.tmp a))) fun v => resK r Γ fun vs => K (v :: vs)

def tupK (vs : List Value) : M Value :=
  match vs with
  | [v] => ret v
  | vs => if vs.all stv then ret (.tuple vs.toArray) else fail

def retK (rs : List ResultVar) (Γ : List (Nat × Value)) : M Value := resK P G E rs Γ tupK
end

section
variable {P : Program} {G : Nat} {E : Env} {ρ : Map} {h : H} {w : World} {N : Nat} {Γ : List (Nat × Value)} {a : Act}

theorem VW.stv {v v' : Value} (h : VW ρ v v') (h1 : Fw.stv v = true) : VR ρ v v' := by
  rcases h with (rfl | ⟨rfl, _⟩) | h
  · simp [undef, Fw.stv] at h1
  · simp [skipV, Fw.stv] at h1
  · exact h

def resOne (a : Act) : ResultVar → Sem Value
  | .tmp t => pure (a.tmps.getD t undef)
  | .cell b t => do loadVar t (← asAddr (a.tmps.getD b undef))

theorem results_eq (fn : Func) (a : Act) : results fn a.tmps = (do
    let vs ← fn.results.mapM (resOne a)
    pure (if h : vs.size = 1 then vs[0] else .tuple vs)) := rfl

theorem run_result (r : R G ρ h w) (l : Live ρ N Γ a) : ∀ (rs : List ResultVar) (K : List Value → M Value) (n n' : Nat) (h' : H) (v : Value), resK P G E rs Γ K n h = some (v, n', h') →
    ∃ vs vs', (rs.mapM (resOne a)).run P w = .ok vs' w ∧ WL ρ vs vs' ∧ K vs n h = some (v, n', h')
  | [], K, n, n', h', v, e => ⟨[], [], by simp, WL.nil, e⟩
  | .tmp t :: rs, K, n, n', h', v, e => by
    obtain ⟨vs, vs', h1, h2, h3⟩ := run_result r l rs _ n n' h' v e
    refine ⟨look Γ t :: vs, a.tmps.getD t undef :: vs', ?_, WL.cons (l.at_ t) h2, h3⟩
    rw [List.mapM_cons]
    simp [resOne, h1]
  | .cell b t :: rs, K, n, n', h', v, e => by
    obtain ⟨u, n1, h1, e1, e2⟩ := bnd_some e
    have hd : Does P G { (default : Oper) with op := .load t (.tmp b) } a w ρ h u h1 := sim_load (E := E) r l (o := { (default : Oper) with op := .load t (.tmp b) }) rfl e1
    obtain ⟨hn, hh⟩ : n = n1 ∧ h = h1 := by
      have := aop_load (P := P) (G := G) (E := E) (Γ := Γ) (op := .load t (.tmp b)) rfl
      obtain ⟨h1, h2⟩ := look_some this e1
      exact ⟨h1.symm, h2.symm⟩
    subst hn hh
    obtain ⟨u', ρ', w', hr, hv, hR, hx⟩ := hd
    obtain ⟨vs, vs', g1, g2, g3⟩ := run_result r l rs _ n n' h' v e2
    -- the load leaves the world alone
    have hxb := l.at_ b
    have hload : ∃ u2, (resOne a (.cell b t)).run P w = .ok u2 w ∧ VW ρ u u2 := by
      simp only [aop] at e1
      cases hu : P.underlying t with
      | none => simp only [hu] at e1; cases e1
      | some d =>
      cases hi : P.info? t with
      | none => simp only [hu, hi] at e1; cases e1
      | some i =>
      simp only [hu, hi] at e1
      by_cases hag : aggT P t = true
      · simp only [hag, if_true] at e1
        obtain ⟨b', o', hb, e1⟩ := opLoadN_some e1
        rw [show look Γ b = .pointer (some ⟨b', o', none⟩) from hb] at hxb
        obtain ⟨_, _, L, hxe, hL, hv'⟩ := hxb.ptr_inv
        cases hxe
        obtain ⟨cs, n2, h2, e3, e4⟩ := bnd_some e1
        obtain ⟨rfl, rfl, rfl⟩ := ret_some e4
        obtain ⟨_, _, hk, L', hL', vs2, hvs, hc⟩ := r.rdN e3
        rw [hL] at hL'
        cases hL'
        have := run_loadVar_agg (P := P) (w := w) (x := ⟨L.blk, L.off + o', none⟩) (cs := vs2) hag hi (by rw [← hvs.1]; exact hk) (fun j u hj => by rw [addr_add]; exact hc j u hj)
        exact ⟨_, by simp [resOne, hv', asAddr, this], hvs.agg.weak⟩
      · simp only [hag, if_false, Bool.false_eq_true] at e1
        obtain ⟨b', o', hb, e1⟩ := opLoad_some e1
        rw [show look Γ b = .pointer (some ⟨b', o', none⟩) from hb] at hxb
        obtain ⟨_, _, L, hxe, hL, hv'⟩ := hxb.ptr_inv
        cases hxe
        obtain ⟨_, _, L', hL', v2, hvr, hc⟩ := r.rd e1
        rw [hL] at hL'
        cases hL'
        have := run_loadVar_one (P := P) (t := t) hu (by simpa using hag) hc
        exact ⟨_, by simp [resOne, hv', asAddr, this], hvr.weak⟩
    obtain ⟨u2, k1, k2⟩ := hload
    refine ⟨u :: vs, u2 :: vs', ?_, WL.cons k2 g2, g3⟩
    rw [List.mapM_cons]
    simp only [Sem.run_bind, k1, Result.andThen_ok, g1]
    rfl

theorem retK_sim {fn : Func} (r : R G ρ h w) (l : Live ρ N Γ a) {n n' : Nat} {h' : H} {v : Value} (e : retK P G E fn.results.toList Γ n h = some (v, n', h')) :
    h' = h ∧ ∃ v', (results fn a.tmps).run P w = .ok v' w ∧ VW ρ v v' := by
  obtain ⟨vs, vs', h1, h2, h3⟩ := run_result r l _ _ _ _ _ _ e
  have hm : (results fn a.tmps).run P w = .ok (if h : vs'.toArray.size = 1 then vs'.toArray[0] else .tuple vs'.toArray) w := by
    rw [results_eq, Array.mapM_eq_mapM_toList]
    simp only [Sem.run_bind, Sem.run_map]
    rw [h1]
    rfl
  unfold tupK at h3
  split at h3
  · rename_i u
    obtain ⟨rfl, rfl, rfl⟩ := ret_some h3
    obtain ⟨u', us, rfl, hu, hus⟩ := h2.head
    have : us = [] := List.eq_nil_of_length_eq_zero (by have := hus.1; simpa using this.symm)
    subst this
    exact ⟨rfl, u', by rw [hm]; simp, hu⟩
  · rename_i hne
    by_cases hall : vs.all stv = true
    · simp only [hall, if_true] at h3
      obtain ⟨rfl, rfl, rfl⟩ := ret_some h3
      refine ⟨rfl, .tuple vs'.toArray, ?_, VR.weak (.tuple _ _ (by simpa using h2.1) fun i x y hx hy => ?_)⟩
      · rw [hm]
        have : vs'.toArray.size ≠ 1 := by
          intro h
          have hl : vs.length = 1 := by rw [h2.1]; simpa using h
          obtain ⟨u, rfl⟩ := List.length_eq_one_iff.1 hl
          exact hne u rfl
        rw [dif_neg this]
      · exact (h2.2 i x y (by simpa using hx) (by simpa using hy)).stv (List.all_eq_true.1 hall x (List.mem_of_getElem? (by simpa using hx)))
    · simp only [hall, if_false] at h3; cases h3
end

/-- What a call comes to in the end. -/
def Done (c : Ctx) : Ending → World → Prop := fun e w' => ∃ v' ρ', e = .returned v' ∧ VW ρ' c.z.1 v' ∧ R c.G ρ' c.z.2.2 w' ∧ Ext c.ρ c.h c.w ρ' c.z.2.2 w'

theorem rDone {c : Ctx} {fn : Func} {Γ : List (Nat × Value)} {m : M Value} {e : Exit} (he : e = .normal ∨ e = .ret) (hm : m = retK c.P c.G c.E fn.results.toList Γ) : OKq c (bodyPost c.P fn (Done c)) e Γ m := by
  intro n h ρ w a e r x l d
  rw [hm] at e
  obtain ⟨hh, v', h1, h2⟩ := retK_sim r l (show _ = some (c.z.1, c.z.2.1, c.z.2.2) from e)
  rcases he with rfl | rfl
  · exact ⟨d, v', h1, v', ρ, rfl, h2, hh ▸ r, hh ▸ x⟩
  · exact ⟨d, v', h1, v', ρ, rfl, h2, hh ▸ r, hh ▸ x⟩

/-- The arguments, as temporaries. -/
def args0 : Nat → List Value → List (Nat × Value)
  | _, [] => []
  | i, v :: r => (i, v) :: args0 (i + 1) r

theorem look_args0 : ∀ (vs : List Value) (i t : Nat), look (args0 i vs) t = if i ≤ t then vs.getD (t - i) undef else undef
  | [], i, t => by simp [args0, look]
  | v :: r, i, t => by
    simp only [args0, look]
    rw [look_args0 r (i + 1) t]
    by_cases h : t = i
    · subst h; simp
    · rw [if_neg h]
      by_cases h2 : i ≤ t
      · rw [if_pos (by omega), if_pos h2]
        rw [show t - i = (t - (i + 1)) + 1 by omega]
        simp
      · rw [if_neg (by omega), if_neg h2]

theorem Sim.of_body {P : Program} {G : Nat} {E : Env} {f : FuncId} {fn : Func} {x : Code} {m : List Value → M Value} (hf : P.funcs[f]? = some fn) (hb : fn.body = some x) (hcall : ∀ (args : Array Value) (w : World), (callFunc f args).run P w = .ok (.enter f args) w)
    (hlen : ∀ args : List Value, fn.ntmps < args.length → m args = fail)
    (h : ∀ (args : List Value) (ρ : Map) (h : H) (w : World) (z : Value × Nat × H), OKc ⟨P, G, E, fn.ntmps, ρ, h, w, z⟩ x (args0 0 args) (m args) (bodyPost P fn (Done ⟨P, G, E, fn.ntmps, ρ, h, w, z⟩))) : Sim P G f m := by
  refine ⟨hcall, fun args n h0 v n' h' e ρ w args' r hargs => ?_⟩
  have hle : args.length ≤ fn.ntmps := by
    rcases Nat.lt_or_ge fn.ntmps args.length with hlt | hge
    · rw [hlen args hlt] at e; cases e
    · exact hge
  have hl : Live ρ fn.ntmps (args0 0 args) { tmps := args'.toArray ++ Array.replicate (fn.ntmps - args'.toArray.size) undef, defers := [] } := by
    refine ⟨by have := hargs.1; simp; omega, fun t => ?_⟩
    rw [look_args0]
    simp only [Nat.zero_le, if_true, Nat.sub_zero]
    by_cases ht : t < args.length
    · have ht' : t < args'.length := hargs.1 ▸ ht
      have := hargs.2 t args[t] args'[t] (List.getElem?_eq_getElem ht) (List.getElem?_eq_getElem ht')
      have e1 : args.getD t undef = args[t] := by simp [List.getD, ht]
      have e2 : (args'.toArray ++ Array.replicate (fn.ntmps - args'.toArray.size) undef).getD t undef = args'[t] := by
        rw [Array.getD_eq_getD_getElem?, Array.getElem?_append_left (by simpa using ht')]
        simp [ht']
      rw [e1]
      show VW ρ _ ((args'.toArray ++ Array.replicate (fn.ntmps - args'.toArray.size) undef).getD t undef)
      rw [e2]
      exact this
    · left; left
      simp [List.getD, Nat.not_lt.1 ht]
  exact calls_of_wp hf hb (h args ρ h0 w (v, n', h') n h0 ρ w _ e r (Ext.refl _ _ _) hl rfl)
end Go.Fw
