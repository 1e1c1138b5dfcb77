/-
  Regions: a list of operations; a region that draws its order: each order comes to one end.
-/
import Derived.Test.YtdomcfoabnhlfaaFwJ
namespace Go.Fw

/-! ## Kinds of operations -/

inductive Kd where
  | pure | load | alloc | act
  deriving DecidableEq

def kd : Op → Kd
  | .move _ => .pure
  | .assign _ => .pure
  | .pick _ _ _ => .pure
  | .build _ _ => .pure
  | .nilCheck _ => .pure
  | .binOp _ _ _ _ _ => .pure
  | .unOp _ _ _ => .pure
  | .convert _ _ _ => .pure
  | .makeFunc _ _ _ => .pure
  | .slice _ _ _ _ _ => .pure
  | .fieldAddr _ _ _ => .pure
  | .field _ _ _ => .pure
  | .indexAddr _ _ _ => .pure
  | .index _ _ _ => .pure
  | .extract _ _ => .pure
  | .load _ _ => .load
  | .alloc _ => .alloc
  | .box _ _ => .alloc
  | .buildSlice _ _ _ => .alloc
  | .makeSlice _ _ _ => .alloc
  | .call c => match c.callee with
    | .builtin .len => .pure
    | .builtin .max => .pure
    | .builtin .min => .pure
    | _ => .act
  | _ => .act

/-- A value that is at hand. -/
def IsRet (m : M Value) : Prop := (∃ v, m = ret v) ∨ m = fail

theorem IsRet.ret (v : Value) : IsRet (Fw.ret v) := .inl ⟨v, rfl⟩
theorem IsRet.fail : IsRet (Fw.fail : M Value) := .inr rfl

section
variable {P : Program} {G : Nat} {E : Env} {Γ Γ' : List (Nat × Value)}

theorem opPick_ret (c a b : Value) : IsRet (opPick c a b) := by unfold opPick; split <;> first | exact .ret _ | exact .fail
theorem opNil_ret (x : Value) : IsRet (opNil x) := by unfold opNil; split <;> first | exact .ret _ | exact .fail
theorem opBuild_ret (z : List Value) (ps : List (Nat × Nat × Bool × Value)) : IsRet (opBuild z ps) := by unfold opBuild; split <;> first | exact .ret _ | exact .fail
theorem opFieldAddr_ret (o : Nat) (x : Value) : IsRet (opFieldAddr o x) := by unfold opFieldAddr; split <;> first | exact .ret _ | exact .fail
theorem opField_ret (o : Nat) (x : Value) : IsRet (opField o x) := by unfold opField; split <;> (try split) <;> first | exact .ret _ | exact .fail
theorem opFieldN_ret (o s : Nat) (x : Value) : IsRet (opFieldN o s x) := by unfold opFieldN; split <;> (try split) <;> first | exact .ret _ | exact .fail
theorem opIndexAddr_ret (s : Nat) (x i : Value) : IsRet (opIndexAddr s x i) := by unfold opIndexAddr; split <;> (try split) <;> first | exact .ret _ | exact .fail
theorem opIndexAddrA_ret (l s : Nat) (x i : Value) : IsRet (opIndexAddrA l s x i) := by unfold opIndexAddrA; split <;> (try split) <;> first | exact .ret _ | exact .fail
theorem opIndexA_ret (l : Nat) (x i : Value) : IsRet (opIndexA l x i) := by unfold opIndexA; split <;> (try split) <;> (try split) <;> first | exact .ret _ | exact .fail
theorem opIndexS_ret (x i : Value) : IsRet (opIndexS x i) := by unfold opIndexS; split <;> (try split) <;> (try split) <;> first | exact .ret _ | exact .fail
theorem opExtract_ret (x : Value) (i : Nat) : IsRet (opExtract x i) := by unfold opExtract; split <;> (try split) <;> (try split) <;> first | exact .ret _ | exact .fail
theorem opBin_ret (op : BinOp) (x y : Value) : IsRet (opBin op x y) := by unfold opBin; split <;> first | exact .ret _ | exact .fail
theorem opEq_ret (f : Value → Value → Option Bool) (b : Bool) (x y : Value) : IsRet (opEq f b x y) := by unfold opEq; split <;> first | exact .ret _ | exact .fail
theorem opNot_ret (x : Value) : IsRet (opNot x) := by unfold opNot; split <;> first | exact .ret _ | exact .fail
theorem opNeg_ret (x : Value) : IsRet (opNeg x) := by unfold opNeg; split <;> first | exact .ret _ | exact .fail
theorem opCom_ret (x : Value) : IsRet (opCom x) := by unfold opCom; split <;> first | exact .ret _ | exact .fail
theorem opConv_ret (k : IntKind) (x : Value) : IsRet (opConv k x) := by unfold opConv; split <;> first | exact .ret _ | exact .fail
theorem opLen_ret (x : Value) : IsRet (opLen x) := by unfold opLen; split <;> first | exact .ret _ | exact .fail
theorem opLenS_ret (x : Value) : IsRet (opLenS x) := by unfold opLenS; split <;> first | exact .ret _ | exact .fail
theorem opMax_ret (xs : List Value) : IsRet (opMax xs) := by unfold opMax; split <;> (try split) <;> first | exact .ret _ | exact .fail
theorem opMin_ret (xs : List Value) : IsRet (opMin xs) := by unfold opMin; split <;> (try split) <;> first | exact .ret _ | exact .fail
theorem opFunc_ret (fn : Fn) (cs : List Value) : IsRet (opFunc fn cs) := by unfold opFunc; split <;> first | exact .ret _ | exact .fail
theorem opSlice_ret (s : Nat) (x : Value) (lo hi mx : Option Value) : IsRet (opSlice s x lo hi mx) := by
  unfold opSlice
  split
  · split
    · split
      · split
        · split
          · split
            · split <;> first | exact .ret _ | exact .fail
            · split
              · split <;> first | exact .ret _ | exact .fail
              · exact .fail
          · exact .fail
        · split
          · split
            · split <;> first | exact .ret _ | exact .fail
            · exact .ret _
            · exact .fail
          · exact .fail
      · exact .fail
    · exact .fail
  · exact .fail

theorem aop_pure {op : Op} (hk : kd op = .pure) : IsRet (aop P G E Γ op) := by
  cases op <;> simp only [kd] at hk <;> try (cases hk; done)
  case move x => exact .ret _
  case assign x => exact .ret _
  case pick c a b => exact opPick_ret _ _ _
  case build t ps =>
    simp only [aop]
    split
    · split
      · split
        · exact opBuild_ret _ _
        · exact .fail
      · exact .fail
    · split
      · split
        · exact opBuild_ret _ _
        · exact .fail
      · exact .fail
    · exact .fail
  case nilCheck x => exact opNil_ret _
  case binOp op t x y yt =>
    cases op <;> simp only [aop] <;> try exact opBin_ret _ _ _
    all_goals
      split <;> first | exact opEq_ret _ _ _ _ | exact opBin_ret _ _ _
  case unOp op t x => cases op <;> first | exact opNot_ret _ | exact opNeg_ret _ | exact opCom_ret _ | exact .fail
  case convert s d x => simp only [aop]; split <;> first | exact opConv_ret _ _ | exact .fail
  case makeFunc fn fi cs => simp only [aop]; split <;> first | exact opFunc_ret _ _ | exact .fail
  case slice t x lo hi mx =>
    simp only [aop]; split
    · split <;> first | exact opSlice_ret _ _ _ _ _ | exact .fail
    · exact .fail
  case fieldAddr t x f =>
    simp only [aop]; split
    · split
      · split
        · split <;> first | exact opFieldAddr_ret _ _ | exact .fail
        · exact .fail
      · exact .fail
    · exact .fail
  case field t x f =>
    simp only [aop]; split
    · split
      · split
        · split <;> first | exact opField_ret _ _ | exact opFieldN_ret _ _ _
        · exact .fail
      · exact .fail
    · exact .fail
  case indexAddr t x i =>
    simp only [aop]; split
    · split <;> first | exact opIndexAddr_ret _ _ _ | exact .fail
    · split <;> first | exact opIndexAddrA_ret _ _ _ _ | exact .fail
    · exact .fail
  case index t x i =>
    simp only [aop]; split
    · split
      · split
        · exact .fail
        · split <;> first | exact opIndexA_ret _ _ _ | exact .fail
      · exact .fail
    · exact opIndexS_ret _ _
    · exact .fail
  case extract x i => exact opExtract_ret _ _
  case call c =>
    split at hk <;> rename_i hc <;> try (cases hk; done)
    all_goals simp only [aop, hc]
    · split
      · split <;> first | exact opLen_ret _ | exact opLenS_ret _ | exact .fail
      · exact .fail
    · exact opMax_ret _
    · exact opMin_ret _

/-- A look at some cells. -/
inductive IsLook : M Value → Prop where
  | rd (b o : Nat) : IsLook (rd b o)
  | rdN (b o k : Nat) : IsLook (bnd (rdN b o k) fun cs => ret (.agg cs.toArray))
  | fail : IsLook fail

theorem aop_load {op : Op} (hk : kd op = .load) : IsLook (aop P G E Γ op) := by
  cases op <;> simp only [kd] at hk <;> try (cases hk; done)
  case load t x =>
    simp only [aop]
    split
    · split
      · unfold opLoadN; split <;> first | exact .rdN _ _ _ | exact .fail
      · unfold opLoad; split <;> first | exact .rd _ _ | exact .fail
    · exact .fail
  case call c => split at hk <;> cases hk

/-- A new block. -/
def IsNew (m : M Value) : Prop := (∃ (cs : List Value) (k : Kind) (f : Nat → Value), m = bnd (new cs k) fun b => ret (f b)) ∨ m = fail

theorem aop_alloc {op : Op} (hk : kd op = .alloc) : IsNew (aop P G E Γ op) := by
  have hp : ∀ cs, IsNew (opPtr cs) := fun cs => .inl ⟨cs, _, _, rfl⟩
  cases op <;> simp only [kd] at hk <;> try (cases hk; done)
  case alloc t => simp only [aop]; split <;> first | exact hp _ | exact .inr rfl
  case box t x =>
    simp only [aop]
    split
    · unfold opBoxN; split <;> first | exact hp _ | exact .inr rfl
    · exact hp _
  case buildSlice t k ps =>
    simp only [aop]
    split
    · split
      · split
        · split
          · unfold opBuildSlice; split <;> first | exact .inl ⟨_, _, _, rfl⟩ | exact .inr rfl
          · exact .inr rfl
        · exact .inr rfl
      · exact .inr rfl
    · exact .inr rfl
  case makeSlice t l c =>
    simp only [aop]
    split
    · split
      · unfold opMake
        split
        · split <;> first | exact .inl ⟨_, _, _, rfl⟩ | exact .inr rfl
        · exact .inr rfl
      · exact .inr rfl
    · exact .inr rfl
  case call c => split at hk <;> cases hk

/-- An operation looks at its operands alone. -/
theorem aop_congr {op : Op} (hx : ∀ x ∈ op.operands, ev G Γ x = ev G Γ' x) : aop P G E Γ op = aop P G E Γ' op := by
  have pairs : ∀ ps : Array (Nat × Operand), (∀ x ∈ (ps.toList.map (·.2)).toArray, ev G Γ x = ev G Γ' x) → (ps.toList.map fun p => (p.1, ev G Γ p.2)) = (ps.toList.map fun p => (p.1, ev G Γ' p.2)) := fun ps hp =>
    List.map_congr_left fun p hm => by
      rw [hp p.2 (by simp; exact ⟨p.1, by simpa using hm⟩)]
  have maps : ∀ xs : Array Operand, (∀ x ∈ xs, ev G Γ x = ev G Γ' x) → xs.toList.map (ev G Γ) = xs.toList.map (ev G Γ') := fun xs hp => List.map_congr_left fun x hm => hp x (by simpa using hm)
  cases op <;> simp only [Op.operands] at hx <;> simp only [aop]
  case move x => rw [hx x (by simp)]
  case assign x => rw [hx x (by simp)]
  case pick c a b => rw [hx c (by simp), hx a (by simp), hx b (by simp)]
  case box t x => rw [hx x (by simp)]
  case build t ps => rw [pairs ps hx]
  case buildSlice t k ps => rw [pairs ps hx]
  case load t x => rw [hx x (by simp)]
  case store t x y => rw [hx x (by simp), hx y (by simp)]
  case nilCheck x => rw [hx x (by simp)]
  case binOp op t x y yt => cases op <;> simp only [hx x (by simp), hx y (by simp)]
  case unOp op t x => cases op <;> simp only [hx x (by simp)]
  case convert s d x => rw [hx x (by simp)]
  case makeFunc fn fi cs => rw [maps cs fun x hm => hx x (by simp [hm])]
  case makeSlice t x y => rw [hx x (by simp), hx y (by simp)]
  case slice t x lo hi mx =>
    have h0 := hx x (by simp)
    have h1 : lo.map (ev G Γ) = lo.map (ev G Γ') := by cases lo <;> simp_all
    have h2 : hi.map (ev G Γ) = hi.map (ev G Γ') := by cases hi <;> simp_all
    have h3 : mx.map (ev G Γ) = mx.map (ev G Γ') := by cases mx <;> simp_all
    rw [h0, h1, h2, h3]
  case fieldAddr t x f => rw [hx x (by simp)]
  case field t x f => rw [hx x (by simp)]
  case indexAddr t x i => rw [hx x (by simp), hx i (by simp)]
  case index t x i => rw [hx x (by simp), hx i (by simp)]
  case extract x i => rw [hx x (by simp)]
  case insert t m k x => rw [hx m (by simp), hx k (by simp), hx x (by simp)]
  case mapUpdate t m k x => rw [hx m (by simp), hx k (by simp), hx x (by simp)]
  case lookup t m k b => rw [hx m (by simp), hx k (by simp)]
  case makeMap t r => cases r <;> rfl
  case call c =>
    have ha := maps c.args fun x hm => hx x (by simp [Call.operands, hm])
    cases hc : c.callee with
    | value f => simp only; rw [ha, hx f (by simp [Call.operands, hc])]
    | invoke r m => rfl
    | builtin b =>
      cases b <;> simp only [ha]
      · cases ht : c.argTypes.toList with
        | nil => rfl
        | cons t ts =>
        cases ts with
        | nil => rfl
        | cons u ts =>
        cases ts with
        | cons _ _ => rfl
        | nil =>
        cases hl : c.args.toList with
        | nil => rfl
        | cons s xs =>
        cases xs with
        | nil => rfl
        | cons x xs =>
        cases xs with
        | cons _ _ => rfl
        | nil =>
          rw [hl] at ha
          simp only [List.map_cons, List.map_nil, List.cons.injEq, and_true] at ha
          simp only [ha.1, ha.2]
      · cases ht : c.argTypes.toList with
        | nil => rfl
        | cons t ts =>
        cases ts with
        | cons _ _ => rfl
        | nil =>
        cases hl : c.args.toList with
        | nil => rfl
        | cons s xs =>
        cases xs with
        | cons _ _ => rfl
        | nil =>
          rw [hl] at ha
          simp only [List.map_cons, List.map_nil, List.cons.injEq, and_true] at ha
          simp only [ha]
end
end Go.Fw
