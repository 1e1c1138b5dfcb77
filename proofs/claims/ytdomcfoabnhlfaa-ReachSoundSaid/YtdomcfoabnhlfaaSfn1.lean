/-
  The framework by which the law is proved: FnA, FnO.
-/
import Derived.Test.YtdomcfoabnhlfaaSwk2
set_option linter.all false
section
set_option linter.unusedVariables false
namespace Go.Fn
open Go Go.Fw

abbrev V := Value
abbrev St := M Value
inductive AC where
  | skip
  | label (l : Nat)
  | exit (i : Nat)
  | ret
  | reg (id : Nat) (out : List Nat)
  | drw (id : Nat) (ord out : List Nat)
  | seq (a b : AC)
  | join (ts : List Nat) (a b : AC)
  | cond (o : Operand) (a b : AC)
  | blk (i : Nat) (b : AC)
  | loop (ts : List Nat) (b : AC)
  | scope (b : AC)


def toC (ops : Nat → Array Oper) : AC → Code
  | .skip => .skip
  | .label l => .label l
  | .exit i => .exit i
  | .ret => .ret
  | .reg id _ => .region id (ops id) false
  | .drw id _ _ => .region id (ops id) true
  | .seq a b => .seq (toC ops a) (toC ops b)
  | .join _ a b => .seq (toC ops a) (toC ops b)
  | .cond o a b => .cond o (toC ops a) (toC ops b)
  | .blk i b => .block i (toC ops b)
  | .loop _ b => .loop (toC ops b)
  | .scope b => .scope (toC ops b)
def acOK (ops : Nat → Array Oper) : AC → Bool
  | .drw id ord _ => goodOrder (ops id) ord
  | .seq a b => acOK ops a && acOK ops b
  | .join _ a b => acOK ops a && acOK ops b
  | .cond _ a b => acOK ops a && acOK ops b
  | .blk _ b => acOK ops b
  | .loop _ b => acOK ops b
  | .scope b => acOK ops b
  | _ => true

/-! ## What lives on -/

def FnV : List Nat → Type
  | [] => St
  | _ :: ts => V → FnV ts
noncomputable abbrev appV (ts : List Nat) (Γ : List (Nat × V)) (k : FnV ts) : St := @List.rec Nat (fun ts => FnV ts → St) (fun m => m) (fun t _ ih k => ih (k (Fw.look Γ t))) ts k
noncomputable def lamV (ts : List Nat) (acc : List (Nat × V)) (f : List (Nat × V) → St) : FnV ts := @List.rec Nat (fun ts => List (Nat × V) → FnV ts) (fun acc => f acc) (fun t _ ih acc => fun x => ih ((t, x) :: acc)) ts acc
noncomputable def badV : (ts : List Nat) → FnV ts
  | [] => fail
  | _ :: ts => fun _ => badV ts
noncomputable def cutAcc (ts : List Nat) (Γ acc : List (Nat × V)) : List (Nat × V) := @List.rec Nat (fun _ => List (Nat × V) → List (Nat × V)) (fun acc => acc) (fun t _ ih acc => ih ((t, Fw.look Γ t) :: acc)) ts acc
theorem appV_lamV : ∀ (ts : List Nat) (Γ acc : List (Nat × V)) (f : List (Nat × V) → St), appV ts Γ (lamV ts acc f) = f (cutAcc ts Γ acc)
  | [], _, _, _ => rfl
  | t :: ts, Γ, acc, f => appV_lamV ts Γ _ f
theorem appV_badV : ∀ (ts : List Nat) (Γ : List (Nat × V)), appV ts Γ (badV ts) = fail
  | [], _ => rfl
  | t :: ts, Γ => appV_badV ts Γ
theorem Live.cut {ρ : Map} {N : Nat} {Γ : List (Nat × Value)} {a : Act} (l : Live ρ N Γ a) : ∀ (ts : List Nat) (acc : List (Nat × V)), Live ρ N acc a → Live ρ N (cutAcc ts Γ acc) a
  | [], acc, h => h
  | t :: ts, acc, h => Live.cut l ts ((t, Fw.look Γ t) :: acc) ⟨l.size, fun s => by
      unfold Fw.look
      split
      · rename_i e; subst e; exact l.at_ _
      · exact h.at_ s⟩
theorem Live.nil {ρ : Map} {N : Nat} {Γ : List (Nat × Value)} {a : Act} (l : Live ρ N Γ a) : Live ρ N [] a := l.some []
theorem OKq.cut {c : Ctx} {Q : Exit → Act → World → Prop} {e : Exit} {Γ : List (Nat × Value)} {m : M Value} (ts : List Nat) (h : OKq c Q e (cutAcc ts Γ []) m) : OKq c Q e Γ m :=
  fun n hh ρ w a e r x l d => h n hh ρ w a e r x (Live.cut l ts [] (Live.nil l)) d
theorem OKc.cut {c : Ctx} {Q : Exit → Act → World → Prop} {y : Code} {Γ : List (Nat × Value)} {m : M Value} (ts : List Nat) (h : OKc c y (cutAcc ts Γ []) m Q) : OKc c y Γ m Q :=
  fun n hh ρ w a e r x l d => h n hh ρ w a e r x (Live.cut l ts [] (Live.nil l)) d

/-- A loop of so many rounds at the most. -/
noncomputable def lpK {α : Type} (z : α) (body : α → α) (n : Nat) : α := @Nat.rec (fun _ => α) z (fun _ ih => body ih) n
/-- What comes behind, told once. -/
def jn {α : Type} (b : α) (k : α → St) : St := k b

section
variable (P : Program) (G : Nat) (E : Fw.Env) (N : Nat) (ops : Nat → Array Oper) (F : Nat)

noncomputable abbrev nA (x : AC) (Γ : List (Nat × V)) (K : Ex → List (Nat × V) → St) : St := @AC.rec (fun _ => List (Nat × V) → (Ex → List (Nat × V) → St) → St)
  (fun Γ K => K .normal Γ)
  (fun _ Γ K => K .normal Γ)
  (fun i Γ K => K (.exit i) Γ)
  (fun Γ K => K .ret Γ)
  (fun id out Γ K => runK P G E N (ops id) (List.range (ops id).size) Γ fun Γ' => K .normal (cutAcc out Γ' []))
  (fun id ord out Γ K => drawK P G E N (ops id) (bef (ops id)) ord [] Γ fun Γ' => K .normal (cutAcc out Γ' []))
  (fun _ _ ia ib Γ K => ia Γ fun e Γ' => match e with
    | .normal => ib Γ' K
    | .exit i => K (.exit i) Γ'
    | .ret => K .ret Γ')
  (fun ts _ _ ia ib Γ K => jn (lamV ts [] fun Γ' => ib Γ' K) fun j => ia Γ fun e Γ' => match e with
    | .normal => appV ts Γ' j
    | .exit i => K (.exit i) Γ'
    | .ret => K .ret Γ')
  (fun o _ _ ia ib Γ K => onB (ev G Γ o) (ia Γ K) (ib Γ K))
  (fun i _ ib Γ K => ib Γ fun e Γ' => match e with
    | .normal => K .normal Γ'
    | .exit j => if Nat.beq j i = true then K .normal Γ' else K (.exit j) Γ'
    | .ret => K .ret Γ')
  (fun ts _ ib Γ K => appV ts Γ (lpK (badV ts) (fun self => lamV ts [] fun Γ' => ib Γ' fun e Γ' => match e with
    | .normal => appV ts Γ' self
    | .exit i => K (.exit i) Γ'
    | .ret => K .ret Γ') F))
  (fun _ ib Γ K => ib Γ K) x Γ K
end

theorem nA_ok {ops : Nat → Array Oper} {F : Nat} : ∀ (x : AC) (c : Ctx) (Q : Exit → Act → World → Prop) (Γ : List (Nat × Value)) (K : Ex → List (Nat × Value) → M Value), acOK ops x = true → c.P.follows .mixedOrders = true → EnvOK c.P c.G c.E →
    (∀ e Γ', OKq c Q (Ex.to e) Γ' (K e Γ')) → OKc c (toC ops x) Γ (nA c.P c.G c.E c.N ops F x Γ K) Q
  | .skip, c, Q, Γ, K, _, hm, hE, h => rSkip (h .normal Γ)
  | .label _, c, Q, Γ, K, _, hm, hE, h => rLabel (h .normal Γ)
  | .exit i, c, Q, Γ, K, _, hm, hE, h => rExit (h (.exit i) Γ)
  | .ret, c, Q, Γ, K, _, hm, hE, h => rRet (h .ret Γ)
  | .reg id out, c, Q, Γ, K, _, hm, hE, h => by
    intro n hh ρ w a e r x l d
    obtain ⟨Γ', n', h', e1, e2⟩ := runK_runL _ _ _ _ (show runK c.P c.G c.E c.N (ops id) (List.range (ops id).size) Γ (fun Γ' => K .normal (cutAcc out Γ' [])) n hh = _ from e)
    refine wp_region (runL_wpOps hE _ ρ hh w Γ Γ' a n n' h' r l e1 fun a' ρ' w' l' d' r' x' => ?_)
    exact (h .normal (cutAcc out Γ' [])) _ _ _ _ _ e2 r' (x.trans x') (Live.cut l' out [] (Live.nil l')) (d'.trans d)
  | .drw id C out, c, Q, Γ, K, hg, hm, hE, h => by
    have hg : goodOrder (ops id) C = true := hg
    intro n hh ρ w a e r x l d
    have hnd : C.Pairwise (· ≠ ·) := by
      have := hg
      simp only [goodOrder, Bool.and_eq_true] at this
      exact (goodOrder_pairs this.2).imp fun h => h.1
    obtain ⟨β, ε, Γ2, n2, h2, hc, _, hrg, e2⟩ := drawK_crun C [] Γ n hh hnd (show drawK c.P c.G c.E c.N (ops id) (bef (ops id)) C [] Γ (fun Γ' => K .normal (cutAcc out Γ' [])) n hh = _ from e)
    refine draw_wp hm hE hg hrg hc r l fun a' ρ' w' l' d' r' x' => ?_
    exact (h .normal (cutAcc out Γ2 [])) _ _ _ _ _ e2 r' (x.trans x') (Live.cut l' out [] (Live.nil l')) (d'.trans d)
  | .seq a b, c, Q, Γ, K, hg, hm, hE, h => by
    simp only [acOK, Bool.and_eq_true] at hg
    refine rSeq (nA_ok a c _ Γ _ hg.1 hm hE fun e Γ' => ?_)
    cases e with
    | normal => exact rThen (nA_ok b c Q Γ' K hg.2 hm hE h)
    | exit i => exact xThenX (h (.exit i) Γ')
    | ret => exact xThenR (h .ret Γ')
  | .join ts a b, c, Q, Γ, K, hg, hm, hE, h => by
    simp only [acOK, Bool.and_eq_true] at hg
    refine rSeq (nA_ok a c _ Γ _ hg.1 hm hE fun e Γ' => ?_)
    cases e with
    | normal =>
      show OKq c _ _ Γ' (appV ts Γ' (lamV ts [] fun Γ' => nA c.P c.G c.E c.N ops F b Γ' K))
      rw [appV_lamV]
      exact rThen (OKc.cut ts (nA_ok b c Q (cutAcc ts Γ' []) K hg.2 hm hE h))
    | exit i => exact xThenX (h (.exit i) Γ')
    | ret => exact xThenR (h .ret Γ')
  | .cond o a b, c, Q, Γ, K, hg, hm, hE, h => by
    simp only [acOK, Bool.and_eq_true] at hg
    exact rCond _ _ rfl (nA_ok a c Q Γ K hg.1 hm hE h) (nA_ok b c Q Γ K hg.2 hm hE h)
  | .blk i b, c, Q, Γ, K, hg, hm, hE, h => by
    refine rBlock (nA_ok b c _ Γ _ hg hm hE fun e Γ' => ?_)
    cases e with
    | normal => exact xBlockN (h .normal Γ')
    | exit j =>
      dsimp only
      split
      · rename_i hj
        have := Nat.eq_of_beq_eq_true hj
        subst this
        exact rOut (h .normal Γ')
      · rename_i hj
        exact rPast (Bool.eq_false_iff.2 hj) (h (.exit j) Γ')
    | ret => exact xBlockR (h .ret Γ')
  | .loop ts b, c, Q, Γ, K, hg, hm, hE, h => by
    refine rLoop (fun s => s) (fun k s => appV ts s (lpK (badV ts) (fun self => lamV ts [] fun Γ' => nA c.P c.G c.E c.N ops F b Γ' fun e Γ' => match e with
      | .normal => appV ts Γ' self
      | .exit i => K (.exit i) Γ'
      | .ret => K .ret Γ') k)) (fun s => appV_badV ts s) (fun I hI k s => ?_) F Γ
    show OKc c _ s (appV ts s (lamV ts [] _)) _
    rw [appV_lamV]
    refine OKc.cut ts (nA_ok b c _ (cutAcc ts s []) _ hg hm hE fun e Γ' => ?_)
    cases e with
    | normal => exact hI k Γ'
    | exit i => exact xThenX (h (.exit i) Γ')
    | ret => exact xThenR (h .ret Γ')
  | .scope b, c, Q, Γ, K, hg, hm, hE, h => by
    refine rScope (nA_ok b c _ Γ K hg hm hE fun e Γ' => ?_)
    cases e with
    | normal => exact xScN (h .normal Γ')
    | exit i => exact xScX (h (.exit i) Γ')
    | ret => exact xScR (h .ret Γ')

/-! ## Functions by their arguments, one by one -/

def NFn : Nat → Type
  | 0 => St
  | n + 1 => V → NFn n
abbrev NF := List V → St
noncomputable def apN : (n : Nat) → NFn n → NF
  | 0, f, [] => f
  | n + 1, f, x :: xs => apN n (f x) xs
  | _, _, _ => fail
def EqN : (n : Nat) → NFn n → NF → Prop
  | 0, f, g => ∀ _ : Unit, f = g []
  | n + 1, f, g => ∀ x, EqN n (f x) fun xs => g (x :: xs)
noncomputable def badN : (n : Nat) → NFn n
  | 0 => fail
  | n + 1 => fun _ => badN n
theorem EqN.at_ : ∀ {n : Nat} {f : NFn n} {g : NF} (h : EqN n f g) (xs : List V), apN n f xs = fail ∨ (xs.length = n ∧ apN n f xs = g xs)
  | 0, f, g, h, [] => .inr ⟨rfl, h ()⟩
  | 0, f, g, h, x :: xs => .inl rfl
  | n + 1, f, g, h, [] => .inl rfl
  | n + 1, f, g, h, x :: xs => by
    rcases EqN.at_ (h x) xs with e | ⟨e1, e2⟩
    · exact .inl e
    · exact .inr ⟨by simp [e1], e2⟩
theorem apN_badN : ∀ (n : Nat) (xs : List V), apN n (badN n) xs = fail
  | 0, [] => rfl
  | 0, x :: xs => rfl
  | n + 1, [] => rfl
  | n + 1, x :: xs => apN_badN n xs

noncomputable abbrev nFun (P : Program) (G : Nat) (fn : Func) (F : Nat) (x : AC) (E : Fw.Env) (args : List V) : St :=
  nA P G E fn.ntmps (opsOf fn) F x (args0 0 args) fun e Γ => match e with
    | .normal => retK P G E fn.results.toList Γ
    | .ret => retK P G E fn.results.toList Γ
    | .exit _ => fail

theorem Sim.of_fn {P : Program} {G : Nat} {f : FuncId} {fn : Func} {F : Nat} {x : AC} {E : Fw.Env} {n : Nat} {fs : NFn n} (hf : P.funcs[f]? = some fn) (hb : fn.body = some (toC (opsOf fn) x)) (hcall : ∀ (args : Array Value) (w : World), (callFunc f args).run P w = .ok (.enter f args) w)
    (hm : P.follows .mixedOrders = true) (hok : acOK (opsOf fn) x = true) (hn : Nat.ble n fn.ntmps = true) (hE : EnvOK P G E) (heq : EqN n fs (nFun P G fn F x E)) : Sim P G f (apN n fs) := by
  have hn := Nat.le_of_ble_eq_true hn
  refine Sim.of_body (E := E) hf hb hcall (fun args hl => ?_) (fun args ρ h w z => ?_)
  · rcases heq.at_ args with e | ⟨e1, e2⟩
    · exact e
    · omega
  · rcases heq.at_ args with e | ⟨e1, e2⟩
    · rw [e]; exact rFail
    · rw [e2]
      refine nA_ok x ⟨P, G, E, fn.ntmps, ρ, h, w, z⟩ _ _ _ hok hm hE fun e Γ' => ?_
      cases e with
      | normal => exact rDone (.inl rfl) rfl
      | ret => exact rDone (.inr rfl) rfl
      | exit i => exact qFail
theorem Sim.none {P : Program} {G : Nat} {f : FuncId} {n : Nat} (hcall : ∀ (args : Array Value) (w : World), (callFunc f args).run P w = .ok (.enter f args) w) : Sim P G f (apN n (badN n)) := Sim.of_fail hcall fun xs => apN_badN n xs
end Go.Fn
end
section
set_option linter.unusedVariables false
namespace Go.Fn
open Go Go.Fw

def cl (m : St) (K : V → St) : St := bnd m K
def kPtr (cs : List V) (K : V → St) : St := bnd (opPtr cs) K
def kBoxN (x : V) (K : V → St) : St := bnd (opBoxN x) K
def kBuild (z : List V) (ps : List (Nat × Nat × Bool × V)) (K : V → St) : St := bnd (opBuild z ps) K
def kBuildSlice (n : Nat) (z : List V) (ps : List (Nat × Nat × Bool × V)) (K : V → St) : St := bnd (opBuildSlice n z ps) K
def kLoad (x : V) (K : V → St) : St := bnd (opLoad x) K
def kLoadN (n : Nat) (x : V) (K : V → St) : St := bnd (opLoadN n x) K
def kStore (x v : V) (K : V → St) : St := bnd (opStore x v) K
def kStoreN (n : Nat) (x v : V) (K : V → St) : St := bnd (opStoreN n x v) K
def kNil (x : V) (K : V → St) : St := bnd (opNil x) K
def kAdd (x y : V) (K : V → St) : St := bnd (opBin .add x y) K
def kSub (x y : V) (K : V → St) : St := bnd (opBin .sub x y) K
def kEql (x y : V) (K : V → St) : St := bnd (opBin .eql x y) K
def kNeq (x y : V) (K : V → St) : St := bnd (opBin .neq x y) K
def kLss (x y : V) (K : V → St) : St := bnd (opBin .lss x y) K
def kLeq (x y : V) (K : V → St) : St := bnd (opBin .leq x y) K
def kGtr (x y : V) (K : V → St) : St := bnd (opBin .gtr x y) K
def kGeq (x y : V) (K : V → St) : St := bnd (opBin .geq x y) K
def kEqB (neg : Bool) (x y : V) (K : V → St) : St := bnd (opEq eqB neg x y) K
def kEqP (neg : Bool) (x y : V) (K : V → St) : St := bnd (opEq eqP neg x y) K
def kNot (x : V) (K : V → St) : St := bnd (opNot x) K
def kFunc (g : Nat) (l : List V) (K : V → St) : St := bnd (opFunc (.func g) l) K
def kMake (bytes : Nat) (z : List V) (l c : V) (K : V → St) : St := bnd (opMake bytes z l c) K
def kSlice (size : Nat) (x : V) (l h m : Option V) (K : V → St) : St := bnd (opSlice size x l h m) K
def kFieldAddr (o : Nat) (x : V) (K : V → St) : St := bnd (opFieldAddr o x) K
def kField (o : Nat) (x : V) (K : V → St) : St := bnd (opField o x) K
def kFieldN (o s : Nat) (x : V) (K : V → St) : St := bnd (opFieldN o s x) K
def kIndexAddr (s : Nat) (x i : V) (K : V → St) : St := bnd (opIndexAddr s x i) K
def kIndexAddrA (m s : Nat) (x i : V) (K : V → St) : St := bnd (opIndexAddrA m s x i) K
def kExtract (x : V) (i : Nat) (K : V → St) : St := bnd (opExtract x i) K
def kCall (E : Fw.Env) (f : V) (xs : List V) (K : V → St) : St := bnd (opCall E f xs) K
def kLen (x : V) (K : V → St) : St := bnd (opLen x) K
def kClear (z : List V) (x : V) (K : V → St) : St := bnd (opClear z x) K
def kMin (xs : List V) (K : V → St) : St := bnd (opMin xs) K
def kApp (s b : Nat) (x y : V) (K : V → St) : St := bnd (opApp s b x y) K
def kMakeMap (n : Nat) (K : V → St) : St := bnd (opMakeMap n) K
def kLookup (n : Nat) (z : V) (ok : Bool) (m k : V) (K : V → St) : St := bnd (opLookup n z ok m k) K
def kInsert (n : Nat) (m k x : V) (K : V → St) : St := bnd (opInsert n m k x) K
def kChk (ag : Bool) (x v : V) (k : St) : St := bnd (opChk ag x v) fun _ => k
end Go.Fn
end
