/-
  The rules for the code of a function, in the form in which a program writes the proofs.
-/
import Derived.Test.YtdomcfoabnhlfaaFwO
namespace Go.Fw

/-! ## Functions of the temporaries that live on -/

def Fn : List Nat → Type
  | [] => M Value
  | _ :: ts => Value → Fn ts

def appL : (ts : List Nat) → List Value → Fn ts → M Value
  | [], _, m => m
  | _ :: ts, x :: xs, k => appL ts xs (k x)
  | _ :: ts, [], k => appL ts [] (k undef)

def zipL : List Nat → List Value → List (Nat × Value) → List (Nat × Value)
  | [], _, acc => acc
  | t :: ts, x :: xs, acc => zipL ts xs ((t, x) :: acc)
  | t :: ts, [], acc => zipL ts [] ((t, undef) :: acc)

/-- The function at what is known of the temporaries. -/
def appK : (ts : List Nat) → List (Nat × Value) → Fn ts → M Value
  | [], _, m => m
  | t :: ts, Γ, k => appK ts Γ (k (look Γ t))

theorem appK_appL : ∀ (ts : List Nat) (Γ : List (Nat × Value)) (k : Fn ts), appK ts Γ k = appL ts (ts.map (look Γ)) k
  | [], _, _ => rfl
  | _ :: ts, Γ, k => appK_appL ts Γ (k _)

def AllK (c : Ctx) (Q : Exit → Act → World → Prop) (e : Exit) : (ts : List Nat) → List (Nat × Value) → Fn ts → Prop
  | [], acc, m => OKq c Q e acc m
  | t :: ts, acc, k => ∀ x, AllK c Q e ts ((t, x) :: acc) (k x)

def AllC (c : Ctx) (y : Code) (Q : Exit → Act → World → Prop) : (ts : List Nat) → List (Nat × Value) → Fn ts → Prop
  | [], acc, m => OKc c y acc m Q
  | t :: ts, acc, k => ∀ x, AllC c y Q ts ((t, x) :: acc) (k x)

def AllF : (ts : List Nat) → Fn ts → Prop
  | [], m => m = fail
  | _ :: ts, k => ∀ x, AllF ts (k x)

section
variable {c : Ctx} {Q : Exit → Act → World → Prop} {e : Exit} {y : Code}

theorem AllK.at_ : ∀ (ts : List Nat) (xs : List Value) (acc : List (Nat × Value)) (k : Fn ts), AllK c Q e ts acc k → OKq c Q e (zipL ts xs acc) (appL ts xs k)
  | [], _, _, _, h => h
  | _ :: ts, x :: xs, _, _, h => AllK.at_ ts xs _ _ (h x)
  | _ :: ts, [], _, _, h => AllK.at_ ts [] _ _ (h undef)
theorem AllC.at_ : ∀ (ts : List Nat) (xs : List Value) (acc : List (Nat × Value)) (k : Fn ts), AllC c y Q ts acc k → OKc c y (zipL ts xs acc) (appL ts xs k) Q
  | [], _, _, _, h => h
  | _ :: ts, x :: xs, _, _, h => AllC.at_ ts xs _ _ (h x)
  | _ :: ts, [], _, _, h => AllC.at_ ts [] _ _ (h undef)
theorem AllF.at_ : ∀ (ts : List Nat) (xs : List Value) (k : Fn ts), AllF ts k → appL ts xs k = fail
  | [], _, _, h => h
  | _ :: ts, x :: xs, _, h => AllF.at_ ts xs _ (h x)
  | _ :: ts, [], _, h => AllF.at_ ts [] _ (h undef)
theorem AllK.mk : ∀ (ts : List Nat) (acc : List (Nat × Value)) (k : Fn ts), (∀ xs, OKq c Q e (zipL ts xs acc) (appL ts xs k)) → AllK c Q e ts acc k
  | [], _, _, h => h []
  | _ :: ts, _, k, h => fun x => AllK.mk ts _ (k x) fun xs => h (x :: xs)

/-- What is known of the temporaries that live on, out of what is known of all. -/
theorem Live.zip {ρ : Map} {N : Nat} {Γ : List (Nat × Value)} {a : Act} (l : Live ρ N Γ a) : ∀ (ts : List Nat) (acc : List (Nat × Value)), Live ρ N acc a → Live ρ N (zipL ts (ts.map (look Γ)) acc) a
  | [], _, h => h
  | t :: ts, acc, h => Live.zip l ts _ ⟨h.size, fun s => by
      simp only [look]
      split
      · rename_i e; subst e; exact l.at_ s
      · exact h.at_ s⟩

theorem Live.nil {ρ : Map} {N : Nat} {Γ : List (Nat × Value)} {a : Act} (l : Live ρ N Γ a) : Live ρ N [] a := ⟨l.size, fun _ => .inl (.inl rfl)⟩

theorem qLess {Γ : List (Nat × Value)} {m : M Value} (ts : List Nat) (h : OKq c Q e (ts.map fun t => (t, look Γ t)) m) : OKq c Q e Γ m := OKq.less ts h
theorem cLess {Γ : List (Nat × Value)} {m : M Value} (ts : List Nat) (h : OKc c y (ts.map fun t => (t, look Γ t)) m Q) : OKc c y Γ m Q := OKc.less ts h

theorem cAs {Γ : List (Nat × Value)} {m m' : M Value} (hm : m = m') (h : OKc c y Γ m' Q) : OKc c y Γ m Q := hm ▸ h

theorem xRegion (hE : EnvOK c.P c.G c.E) (ts : List Nat) {Γ : List (Nat × Value)} {m : M Value} {id : Nat} {ops : Array Oper} {k : Fn ts} (hm : m = runK c.P c.G c.E c.N ops (List.range ops.size) Γ fun Γ' => appK ts Γ' k)
    (hK : AllK c Q .normal ts [] k) : OKc c (.region id ops false) Γ m Q := by
  intro n h ρ w a e r x l d
  rw [hm] at e
  obtain ⟨Γ', n', h', e1, e2⟩ := runK_runL _ _ _ _ e
  refine wp_region (runL_wpOps hE _ ρ h w Γ Γ' a n n' h' r l e1 fun a' ρ' w' l' d' r' x' => ?_)
  rw [appK_appL] at e2
  exact AllK.at_ ts _ _ _ hK _ _ _ _ _ e2 r' (x.trans x') (l'.zip ts [] l'.nil) (d'.trans d)

theorem xDraw (hmix : c.P.follows .mixedOrders = true) (hE : EnvOK c.P c.G c.E) (ts : List Nat) {Γ : List (Nat × Value)} {m : M Value} {id : Nat} {ops : Array Oper} {C : List Nat} {k : Fn ts} (hg : goodOrder ops C = true)
    (hm : m = drawK c.P c.G c.E c.N ops (bef ops) C [] Γ fun Γ' => appK ts Γ' k) (hK : AllK c Q .normal ts [] k) : OKc c (.region id ops true) Γ m Q := by
  intro n h ρ w a e r x l d
  rw [hm] at e
  have hnd : C.Pairwise (· ≠ ·) := by
    have := hg
    simp only [goodOrder, Bool.and_eq_true] at this
    exact (goodOrder_pairs this.2).imp fun h => h.1
  obtain ⟨β, ε, Γ2, n2, h2, hc, _, hrg, e2⟩ := drawK_crun C [] Γ n h hnd e
  refine draw_wp hmix hE hg hrg hc r l fun a' ρ' w' l' d' r' x' => ?_
  rw [appK_appL] at e2
  exact AllK.at_ ts _ _ _ hK _ _ _ _ _ e2 r' (x.trans x') (l'.zip ts [] l'.nil) (d'.trans d)

theorem xCond {Γ : List (Nat × Value)} {m : M Value} {o : Operand} {x z : Code} {v : Value} {mt mf : M Value} (hm : m = onB v mt mf) (ho : v = ev c.G Γ o) (hx : OKc c x Γ mt Q) (hz : OKc c z Γ mf Q) : OKc c (.cond o x z) Γ m Q :=
  rCond mt mf (by rw [hm, ho]) hx hz

/-- What comes behind is done once, however it is come to. -/
theorem xSeq {Γ : List (Nat × Value)} {m : M Value} {x z : Code} (ts : List Nat) (k : Fn ts) (hz : AllC c z Q ts [] k) (hx : AllK c (Exit.then (fun a w => z.wp c.P Q a w) Q) .normal ts [] k → OKc c x Γ m (Exit.then (fun a w => z.wp c.P Q a w) Q)) : OKc c (.seq x z) Γ m Q :=
  rSeq (hx (AllK.mk ts [] k fun xs => rThen (AllC.at_ ts xs [] k hz)))

theorem xThenX {K : Act → World → Prop} {Γ : List (Nat × Value)} {m : M Value} {id : Nat} (h : OKq c Q (.exit id) Γ m) : OKq c (Exit.then K Q) (.exit id) Γ m := h
theorem xThenR {K : Act → World → Prop} {Γ : List (Nat × Value)} {m : M Value} (h : OKq c Q .ret Γ m) : OKq c (Exit.then K Q) .ret Γ m := h
theorem xBlockN {id : Nat} {Γ : List (Nat × Value)} {m : M Value} (h : OKq c Q .normal Γ m) : OKq c (Exit.inBlock id Q) .normal Γ m := h
theorem xBlockR {id : Nat} {Γ : List (Nat × Value)} {m : M Value} (h : OKq c Q .ret Γ m) : OKq c (Exit.inBlock id Q) .ret Γ m := h

theorem xLoop (ts : List Nat) (Γf : List (Nat × Value)) (sh : Nat → Fn ts) (h0 : AllF ts (sh 0)) {body : Code}
    (hb : ∀ (I : Nat → Act → World → Prop), (∀ k, AllK c (Exit.then (fun a w => I k a w) Q) .normal ts Γf (sh k)) → ∀ k, AllC c body (Exit.then (fun a w => I k a w) Q) ts Γf (sh (k + 1))) (F : Nat) (xs : List Value) :
    OKc c (.loop body) (zipL ts xs Γf) (appL ts xs (sh F)) Q := by
  refine rLoop (σ := List Value) (fun xs => zipL ts xs Γf) (fun k xs => appL ts xs (sh k)) (fun s => AllF.at_ ts s _ h0) (fun I hI k s => ?_) F xs
  exact AllC.at_ ts s Γf _ (hb I (fun k => AllK.mk ts Γf _ fun xs => hI k xs) k)

theorem xLoopAt (ts : List Nat) (Γf : List (Nat × Value)) (sh : Nat → Fn ts) (F : Nat) (xs : List Value) {Γ : List (Nat × Value)} {m : M Value} (hm : m = appL ts xs (sh F)) (hΓ : Γ = zipL ts xs Γf) (h0 : AllF ts (sh 0)) {body : Code}
    (hb : ∀ (I : Nat → Act → World → Prop), (∀ k, AllK c (Exit.then (fun a w => I k a w) Q) .normal ts Γf (sh k)) → ∀ k, AllC c body (Exit.then (fun a w => I k a w) Q) ts Γf (sh (k + 1))) :
    OKc c (.loop body) Γ m Q := by
  subst hm hΓ
  exact xLoop ts Γf sh h0 hb F xs
end

theorem Sim.of_fail {P : Program} {G : Nat} {f : FuncId} {m : List Value → M Value} (hcall : ∀ (args : Array Value) (w : World), (callFunc f args).run P w = .ok (.enter f args) w) (hm : ∀ args, m args = fail) : Sim P G f m :=
  ⟨hcall, fun args n h v n' h' e => by rw [hm] at e; cases e⟩

/-! ## The environment of callees, as a list -/

def envOf : List (FuncId × (List Value → M Value)) → Env
  | [], _ => none
  | (g, m) :: r, f => if f = g then some m else envOf r f

theorem EnvOK.nil {P : Program} {G : Nat} : EnvOK P G (envOf []) := fun _ _ h => by cases h
theorem EnvOK.cons {P : Program} {G : Nat} {g : FuncId} {m : List Value → M Value} {r : List (FuncId × (List Value → M Value))} (h : Sim P G g m) (hr : EnvOK P G (envOf r)) : EnvOK P G (envOf ((g, m) :: r)) := by
  intro f m' hf
  unfold envOf at hf
  split at hf
  · rename_i e; subst e; cases hf; exact h
  · exact hr f m' hf

/-! ## A region's operations, out of the function -/

def findR (id : Nat) : Code → Option (Array Oper)
  | .region i ops _ => if i = id then some ops else none
  | .seq a b => (findR id a).or (findR id b)
  | .cond _ a b => (findR id a).or (findR id b)
  | .block _ b => findR id b
  | .loop b => findR id b
  | .scope b => findR id b
  | _ => none
def opsOf (fn : Func) (id : Nat) : Array Oper :=
  match fn.body with
  | some x => (findR id x).getD #[]
  | none => #[]

/-- A region of a function, and what is done with the temporaries that live on. -/
def rK (P : Program) (G : Nat) (E : Env) (f : Func) (id : Nat) (Γ : List (Nat × Value)) (ts : List Nat) (k : Fn ts) : M Value := runK P G E f.ntmps (opsOf f id) (List.range (opsOf f id).size) Γ fun Γ' => appK ts Γ' k
def dK (P : Program) (G : Nat) (E : Env) (f : Func) (id : Nat) (C : List Nat) (Γ : List (Nat × Value)) (ts : List Nat) (k : Fn ts) : M Value := drawK P G E f.ntmps (opsOf f id) (bef (opsOf f id)) C [] Γ fun Γ' => appK ts Γ' k

theorem xR {c : Ctx} {Q : Exit → Act → World → Prop} (hE : EnvOK c.P c.G c.E) (ts : List Nat) {Γ : List (Nat × Value)} {m : M Value} {f : Func} {id : Nat} {k : Fn ts} (hN : c.N = f.ntmps) (hm : m = rK c.P c.G c.E f id Γ ts k)
    (hK : AllK c Q .normal ts [] k) : OKc c (.region id (opsOf f id) false) Γ m Q :=
  xRegion hE ts (k := k) (by rw [hm, hN]; rfl) hK
theorem xD {c : Ctx} {Q : Exit → Act → World → Prop} (hmix : c.P.follows .mixedOrders = true) (hE : EnvOK c.P c.G c.E) (ts : List Nat) {Γ : List (Nat × Value)} {m : M Value} {f : Func} {id : Nat} {C : List Nat} {k : Fn ts} (hN : c.N = f.ntmps) (hg : goodOrder (opsOf f id) C = true)
    (hm : m = dK c.P c.G c.E f id C Γ ts k) (hK : AllK c Q .normal ts [] k) : OKc c (.region id (opsOf f id) true) Γ m Q :=
  xDraw hmix hE ts (k := k) hg (by rw [hm, hN]; rfl) hK

/-- How many rounds a loop may make at the most. -/
def fuel : Nat := 1000000000000000000

end Go.Fw
