/-
  Calls, and each operation of a region by one law.
-/
import Derived.Test.YtdomcfoabnhlfaaFwMp
namespace Go.Fw

/-- A function of the program does what an abstract one says, in every world that the heap speaks of. -/
structure Sim (P : Program) (G : Nat) (f : FuncId) (m : List Value → M Value) : Prop where
  enter : ∀ (args : Array Value) (w : World), (callFunc f args).run P w = .ok (.enter f args) w
  calls : ∀ (args : List Value) (n : Nat) (h : H) (v : Value) (n' : Nat) (h' : H), m args n h = some (v, n', h') → ∀ (ρ : Map) (w : World) (args' : List Value), R G ρ h w → WL ρ args args' →
    Calls P f args'.toArray w fun e w' => ∃ v' ρ', e = .returned v' ∧ VW ρ' v v' ∧ R G ρ' h' w' ∧ Ext ρ h w ρ' h' w'

def EnvOK (P : Program) (G : Nat) (E : Env) : Prop := ∀ f m, E f = some m → Sim P G f m

section
variable {P : Program} {G : Nat} {ρ : Map} {h : H} {w : World} {N : Nat} {Γ : List (Nat × Value)} {a : Act} {E : Env} {n n' : Nat} {h' : H} {v : Value} {o : Oper}

theorem Does.wp (hd : Does P G o a w ρ h v h') {next : Act → World → Prop} {Q : Exit → Act → World → Prop}
    (hn : ∀ v' ρ' w', VW ρ' v v' → R G ρ' h' w' → Ext ρ h w ρ' h' w' → next (a.put o.dst v') w') : o.wp P a w next Q := by
  obtain ⟨v', ρ', w', hr, hv, hR, hx⟩ := hd
  unfold Oper.wp
  rcases hr with hr | ⟨hr, rfl⟩
  · rw [hr]; exact hn v' ρ' w' hv hR hx
  · rw [hr]; exact hn _ ρ' w' hv hR hx

theorem opCall_some {f : Value} {args : List Value} (e : opCall E f args n h = some (v, n', h')) : ∃ g fi cs m, f = .func (.func g) fi cs ∧ E g = some m ∧ m (args ++ cs.toList) n h = some (v, n', h') := by
  obtain ⟨q, hq⟩ : ∃ q, q = opCall E f args := ⟨_, rfl⟩
  rw [← hq] at e
  unfold opCall at hq
  split at hq
  · rename_i g fi cs
    cases hE : E g with
    | none => simp only [hE] at hq; subst hq; cases e
    | some m => simp only [hE] at hq; subst hq; exact ⟨g, fi, cs, m, rfl, hE, e⟩
  · subst hq; cases e

theorem sim_call (hE : EnvOK P G E) (r : R G ρ h w) (l : Live ρ N Γ a) {c : Call} {f : Operand} (ho : o.op = .call c) (hc : c.callee = .value f) (e : aop P G E Γ o.op n h = some (v, n', h'))
    {next : Act → World → Prop} {Q : Exit → Act → World → Prop} (hn : ∀ v' ρ' w', VW ρ' v v' → R G ρ' h' w' → Ext ρ h w ρ' h' w' → next (a.put o.dst v') w') : o.wp P a w next Q := by
  rw [ho] at e
  simp only [aop, hc] at e
  obtain ⟨g, fi, cs, m, hf, hg, e⟩ := opCall_some e
  have hfv := ev_sim r l f
  rw [hf] at hfv
  obtain ⟨_, cs', hf', hcs⟩ := hfv.func_inv
  have hsim := hE g m hg
  have hcalls := hsim.calls _ _ _ _ _ _ e ρ w ((c.args.toList.map a.eval) ++ cs'.toList) r ((WL.map r l c.args.toList).append hcs.weak)
  have hargs : ((c.args.toList.map a.eval) ++ cs'.toList).toArray = c.args.map a.eval ++ cs' := by
    apply Array.toList_inj.1; simp
  rw [hargs] at hcalls
  unfold Oper.wp
  have hrun : (execOp a.eval o).run P w = .ok (.enter g (c.args.map a.eval ++ cs')) w := by
    simp [execOp, ho, resolve, hc, hf', Deferred.ofValue, invoke, hsim.enter]
  rw [hrun, Oper.upon_enter]
  refine hcalls.mono fun e' w' he => ?_
  obtain ⟨v', ρ', rfl, hv, hR, hx⟩ := he
  exact hn v' ρ' w' hv hR hx

/-- EACH OPERATION. -/
theorem sim_op (hE : EnvOK P G E) (r : R G ρ h w) (l : Live ρ N Γ a) (e : aop P G E Γ o.op n h = some (v, n', h'))
    {next : Act → World → Prop} {Q : Exit → Act → World → Prop} (hn : ∀ v' ρ' w', VW ρ' v v' → R G ρ' h' w' → Ext ρ h w ρ' h' w' → next (a.put o.dst v') w') : o.wp P a w next Q := by
  cases ho : o.op with
  | move x => exact (sim_move r l ho e).wp hn
  | assign x => exact (sim_assign r l ho e).wp hn
  | pick c x y => exact (sim_pick r l ho e).wp hn
  | alloc t => exact (sim_alloc r ho e).wp hn
  | box t x => exact (sim_box r l ho e).wp hn
  | build t ps => exact (sim_build r l ho e).wp hn
  | buildSlice t k ps => exact (sim_buildSlice r l ho e).wp hn
  | load t x => exact (sim_load r l ho e).wp hn
  | store t x y => exact (sim_store r l ho e).wp hn
  | nilCheck x => exact (sim_nilCheck r l ho e).wp hn
  | binOp op t x y yt => exact (sim_binOp r l ho e).wp hn
  | unOp op t x =>
    cases op with
    | not => exact (sim_not r l ho e).wp hn
    | neg => exact (sim_neg r l ho e).wp hn
    | xor => exact (sim_com r l ho e).wp hn
    | plus => rw [ho] at e; cases e
  | convert s d x => exact (sim_convert r l ho e).wp hn
  | makeFunc fn fi cs => exact (sim_makeFunc r l ho e).wp hn
  | makeSlice t x y => exact (sim_makeSlice r l ho e).wp hn
  | slice t x lo hi mx => exact (sim_slice r l ho e).wp hn
  | fieldAddr t x f => exact (sim_fieldAddr r l ho e).wp hn
  | field t x f => exact (sim_field r l ho e).wp hn
  | indexAddr t x i => exact (sim_indexAddr r l ho e).wp hn
  | index t x i => exact (sim_index r l ho e).wp hn
  | extract x i => exact (sim_extract r l ho e).wp hn
  | call c =>
    cases hc : c.callee with
    | value f => exact sim_call hE r l ho hc e hn
    | invoke rc m => rw [ho] at e; simp only [aop, hc] at e; cases e
    | builtin b =>
      cases b <;> first
        | exact (sim_len r l ho hc e).wp hn
        | exact (sim_max r l ho hc e).wp hn
        | exact (sim_min r l ho hc e).wp hn
        | exact (sim_append r l ho hc e).wp hn
        | (rw [ho] at e; simp only [aop, hc] at e; cases e)
  | makeMap t r =>
    cases r with
    | none => exact (sim_makeMap ‹R G ρ h w› ho e).wp hn
    | some _ => rw [ho] at e; cases e
  | lookup t x y ok => exact (sim_lookup r l ho e).wp hn
  | insert t x y u => exact (sim_insert r l (.inl ho) e).wp hn
  | mapUpdate t x y u => exact (sim_insert r l (.inr ho) e).wp hn
  | _ => rw [ho] at e; cases e
end
end Go.Fw
