/-
  Regions: what a step of a region is; two steps that may come in either order.
-/
import Derived.Test.YtdomcfoabnhlfaaFwK
namespace Go.Fw

section
variable (P : Program) (G : Nat) (E : Env) (N : Nat) (ops : Array Oper)

def isSkip : Value → Bool
  | .tuple vs => match vs.toList with
    | [.nilFunc] => true
    | _ => false
  | _ => false

/-- Is an operation wanted, by its guard? -/
def gwant (Γ : List (Nat × Value)) (o : Oper) : Option Bool :=
  match o.guard with
  | none => some true
  | some (j, want) => match (ops[j]?).bind (·.dst) with
    | some t => match look Γ t with
      | .bool b => some (b == want)
      | v => if isSkip v then some false else none
    | none => none

def putG (dst : Option Tmp) (v : Value) (Γ : List (Nat × Value)) : Option (List (Nat × Value)) :=
  match dst with
  | none => some Γ
  | some d => if d < N then some ((d, v) :: Γ) else none

def liftO {α : Type} : Option α → M α
  | some a => ret a
  | none => fail

/-- What the operation i gives. -/
def sval (Γ : List (Nat × Value)) (i : Nat) : M Value :=
  match ops[i]? with
  | none => fail
  | some o => match gwant ops Γ o with
    | none => fail
    | some false => ret skipV
    | some true => aop P G E Γ o.op

def dstOf (i : Nat) : Option Tmp := (ops[i]?).bind (·.dst)

def step (i : Nat) (Γ : List (Nat × Value)) : M (List (Nat × Value)) :=
  bnd (sval P G E ops Γ i) fun v => liftO (putG N (dstOf ops i) v Γ)

def runL : List Nat → List (Nat × Value) → M (List (Nat × Value))
  | [], Γ => ret Γ
  | i :: l, Γ => bnd (step P G E N ops i Γ) (runL l)
end

section
variable {P : Program} {G : Nat} {E : Env} {N : Nat} {ops : Array Oper} {ρ : Map} {h : H} {w : World} {Γ Γ' : List (Nat × Value)} {a : Act} {n n' : Nat} {h' : H}

theorem liftO_some {α : Type} {x : Option α} {v : α} {n n' : Nat} {h h' : H} (e : liftO x n h = some (v, n', h')) : x = some v ∧ n' = n ∧ h' = h := by
  cases x with
  | none => cases e
  | some a => obtain ⟨rfl, rfl, rfl⟩ := ret_some e; exact ⟨rfl, rfl, rfl⟩

theorem putG_live (l : Live ρ N Γ a) {dst : Option Tmp} {v v' : Value} (hp : putG N dst v Γ = some Γ') (hv : VW ρ v v') : Live ρ N Γ' (a.put dst v') := by
  unfold putG at hp
  split at hp
  · cases hp; exact l
  · split at hp
    · rename_i hd; cases hp; exact l.put hd hv
    · cases hp

theorem isSkip_eq {v : Value} (h : isSkip v = true) : v = skipV := by
  unfold isSkip at h
  split at h
  · rename_i vs
    split at h
    · rename_i hv
      unfold skipV
      congr 1
      exact Array.toList_inj.1 hv
    · cases h
  · cases h

theorem gwant_wanted (l : Live ρ N Γ a) {o : Oper} {b : Bool} (hg : gwant ops Γ o = some b) : Region.wanted o (yielded ops a.tmps) = b := by
  unfold gwant at hg
  unfold Region.wanted
  split at hg
  · rename_i hgd; rw [hgd]; simp at hg; simp [hg]
  · rename_i j want hgd
    rw [hgd]
    split at hg
    · rename_i t ht
      split at hg
      · rename_i c hc
        simp only [Option.some.injEq] at hg
        have := l.at_ t
        rw [hc] at this
        have hb := this.bool_inv
        have ht' : t < a.tmps.size := by
          rcases Nat.lt_or_ge t a.tmps.size with h | h
          · exact h
          · simp [Array.getD, Nat.not_lt.2 h, undef] at hb
        have hy : yielded ops a.tmps j = some c := by
          unfold yielded
          rw [ht]
          have : a.tmps[t]? = some (.bool c) := by
            simp only [Array.getD, ht', dif_pos] at hb
            simp [ht', ← hb]
          simp [this]
        simp only [hy]
        rw [← hg]
        simp
      · split at hg
        case isFalse => cases hg
        rename_i hs
        simp only [Option.some.injEq] at hg
        have hat := l.at_ t
        rw [isSkip_eq hs] at hat
        have hnb : ∀ b, a.tmps.getD t undef ≠ .bool b := by
          intro b hb
          rw [hb] at hat
          rcases hat with (h | ⟨_, h⟩) | h
          · cases h
          · cases h
          · cases h
        have hy : yielded ops a.tmps j = none := by
          unfold yielded
          rw [ht]
          cases hq : a.tmps[t]? with
          | none => simp [hq]
          | some u =>
            have hu : a.tmps.getD t undef = u := by rw [Array.getD_eq_getD_getElem?, hq]; rfl
            rw [hu] at hnb
            cases u <;> simp [hq]
            exact absurd rfl (hnb _)
        simp only [hy]
        rw [← hg]
        rfl
    · cases hg

/-- A step of the abstract region is a step of the region. -/
theorem step_wpOp (hE : EnvOK P G E) (r : R G ρ h w) (l : Live ρ N Γ a) {i : Nat} (e : step P G E N ops i Γ n h = some (Γ', n', h')) {K : Act → World → Prop} {Q : Exit → Act → World → Prop}
    (hK : ∀ a' ρ' w', Live ρ' N Γ' a' → a'.defers = a.defers → R G ρ' h' w' → Ext ρ h w ρ' h' w' → K a' w') : wpOp P ops Q i K a w := by
  obtain ⟨v, n1, h1, e1, e2⟩ := bnd_some e
  obtain ⟨hput, rfl, rfl⟩ := liftO_some e2
  unfold wpOp
  unfold sval at e1
  cases ho : ops[i]? with
  | none => simp only [ho] at e1; cases e1
  | some o =>
    simp only [ho] at e1
    have hd : dstOf ops i = o.dst := by simp [dstOf, ho]
    rw [hd] at hput
    have hdf : ∀ (a : Act) (d : Option Tmp) (v : Value), (a.put d v).defers = a.defers := by intro a d v; cases d <;> rfl
    cases hg : gwant ops Γ o with
    | none => simp only [hg] at e1; cases e1
    | some b =>
      have hw := gwant_wanted l hg
      cases b with
      | false =>
        simp only [hg] at e1
        obtain ⟨rfl, rfl, rfl⟩ := ret_some e1
        simp only [hw, Bool.false_eq_true, if_false]
        exact hK _ ρ w (putG_live l hput (.inl (.inr ⟨rfl, rfl⟩))) (hdf _ _ _) r (Ext.refl _ _ _)
      | true =>
        simp only [hg] at e1
        simp only [hw, if_true]
        exact .inl (sim_op hE r l e1 fun v' ρ' w' hv hr hx => hK _ ρ' w' (putG_live (l.mono hx.le) hput hv) (hdf _ _ _) hr hx)

theorem runL_wpOps (hE : EnvOK P G E) {Q : Exit → Act → World → Prop} : ∀ (l : List Nat) (ρ : Map) (h : H) (w : World) (Γ Γ' : List (Nat × Value)) (a : Act) (n n' : Nat) (h' : H), R G ρ h w → Live ρ N Γ a → runL P G E N ops l Γ n h = some (Γ', n', h') →
    (∀ a' ρ' w', Live ρ' N Γ' a' → a'.defers = a.defers → R G ρ' h' w' → Ext ρ h w ρ' h' w' → Q .normal a' w') → wpOps P ops Q l a w
  | [], ρ, h, w, Γ, Γ', a, n, n', h', r, lv, e, hQ => by
    obtain ⟨rfl, rfl, rfl⟩ := ret_some e
    exact hQ a ρ w lv rfl r (Ext.refl _ _ _)
  | i :: l, ρ, h, w, Γ, Γ', a, n, n', h', r, lv, e, hQ => by
    obtain ⟨Γ1, n1, h1, e1, e2⟩ := bnd_some e
    rw [wpOps_cons]
    refine step_wpOp hE r lv e1 fun a1 ρ1 w1 lv1 hd1 r1 x1 => ?_
    exact runL_wpOps hE l ρ1 h1 w1 Γ1 Γ' a1 n1 n' h' r1 lv1 e2 fun a' ρ' w' lv' hd r' x' => hQ a' ρ' w' lv' (hd.trans hd1) r' (x1.trans x')

/-! ## Two steps in either order -/

/-- The same temporaries. -/
def Same (Γ Γ' : List (Nat × Value)) : Prop := ∀ t, look Γ t = look Γ' t
theorem Same.refl (Γ : List (Nat × Value)) : Same Γ Γ := fun _ => rfl
theorem Same.symm (h : Same Γ Γ') : Same Γ' Γ := fun t => (h t).symm
theorem Same.trans {Γ'' : List (Nat × Value)} (h : Same Γ Γ') (k : Same Γ' Γ'') : Same Γ Γ'' := fun t => (h t).trans (k t)
theorem Same.cons (h : Same Γ Γ') (d : Nat) (v : Value) : Same ((d, v) :: Γ) ((d, v) :: Γ') := fun t => by simp only [look]; split <;> first | rfl | exact h t
theorem Same.ev (h : Same Γ Γ') (x : Operand) : ev G Γ x = ev G Γ' x := by cases x <;> first | rfl | exact h _
theorem Same.gwant (h : Same Γ Γ') (o : Oper) : gwant ops Γ o = gwant ops Γ' o := by
  unfold Fw.gwant
  split
  · rfl
  · split
    · rw [h]
    · rfl
theorem Same.sval (h : Same Γ Γ') (i : Nat) : sval P G E ops Γ i = sval P G E ops Γ' i := by
  unfold Fw.sval
  split
  · rfl
  · rw [h.gwant]
    split
    · rfl
    · rfl
    · exact aop_congr fun x _ => h.ev x
theorem Same.live (h : Same Γ Γ') (l : Live ρ N Γ a) : Live ρ N Γ' a := ⟨l.size, fun t => by rw [← h t]; exact l.at_ t⟩

theorem putG_same (hs : Same Γ Γ') {d : Option Tmp} {v : Value} {Γ1 : List (Nat × Value)} (hp : putG N d v Γ = some Γ1) : ∃ Γ1', putG N d v Γ' = some Γ1' ∧ Same Γ1 Γ1' := by
  unfold putG at hp ⊢
  split at hp
  · cases hp; exact ⟨_, rfl, hs⟩
  · split at hp
    · rename_i hd; cases hp; exact ⟨_, by simp [hd], hs.cons _ _⟩
    · cases hp

/-- The same heap. -/
def HEq' (h h' : H) : Prop := ∀ b, h.get b = h'.get b
theorem HEq'.sub {h h' : H} (e : HEq' h h') : Sub h h' := fun b B hb => by rw [← e b]; exact hb
theorem HEq'.r (e : HEq' h h') (r : R G ρ h w) : R G ρ h' w :=
  ⟨fun b => by rw [← e b]; exact r.dom b, r.glob, fun b B L hb hl hL => r.blk b B L (by rw [e b]; exact hb) hl hL, fun b c B C L M hne hb hc hl hm hL hM => r.apart b c B C L M hne (by rw [e b]; exact hb) (by rw [e c]; exact hc) hl hm hL hM, fun b B L hb hm hL => r.maps b B L (by rw [e b]; exact hb) hm hL, fun b c B C L M hne hb hc h1 h2 hL hM => r.lone b c B C L M hne (by rw [e b]; exact hb) (by rw [e c]; exact hc) h1 h2 hL hM⟩
theorem HEq'.own (e : HEq' h h') {k : Nat} (ho : Own ρ h k) : Own ρ h' k := by
  obtain ⟨b, B, L, hb, hm, hL, hk⟩ := ho
  exact ⟨b, B, L, by rw [← e b]; exact hb, hm, hL, hk⟩
theorem HEq'.symm {h h' : H} (e : HEq' h h') : HEq' h' h := fun b => (e b).symm
theorem HEq'.ext {ρ' : Map} {w' : World} {h0 : H} (e : HEq' h h') (x : Ext ρ h0 w ρ' h w') : Ext ρ h0 w ρ' h' w' := ⟨x.le, x.os, x.tape, x.output, x.size, x.frame, fun k hk ho => x.owns k hk (e.symm.own ho)⟩
theorem HEq'.ext' {ρ' : Map} {w' : World} {h0 : H} (e : HEq' h h') (x : Ext ρ h w ρ' h0 w') : Ext ρ h' w ρ' h0 w' := ⟨x.le, x.os, x.tape, x.output, x.size, fun k hk hn => x.frame k hk fun ho => hn (e.own ho), fun k hk ho => e.own (x.owns k hk ho)⟩

/-- In the same heap the same comes of it. -/
theorem M.same {α : Type} (m : M α) {n n' : Nat} {h h' k : H} {v : α} (e : m n h = some (v, n', h')) (hk : HEq' h k) : ∃ k', m n k = some (v, n', k') ∧ HEq' h' k' := by
  have l := m.loc _ _ _ _ _ e
  obtain ⟨k', h1, h2⟩ := l.more k hk.sub fun b hb1 hb2 => by rw [← hk b]; exact l.fresh b hb1 hb2
  refine ⟨k', h1, fun b => ?_⟩
  rw [h2]
  split
  · rfl
  · rename_i hs
    have : ¬ (h.get b).isSome = true := fun hh => hs ((l.dom b).2 (.inl hh))
    have e1 : h'.get b = none := by simpa using hs
    have e2 : h.get b = none := by simpa using this
    rw [e1, ← hk b, e2]

/-! ### What a load saw still stands -/

def veq : Value → Value → Bool
  | .bool a, .bool b => a == b
  | .int k a, .int k' b => decide (k = k') && decide (a = b)
  | .pointer a, .pointer b => decide (a = b)
  | .slice a l c, .slice b m d => decide (a = b) && decide (l = m) && decide (c = d)
  | .nilFunc, .nilFunc => true
  | .nilIface, .nilIface => true
  | .map none, .map none => true
  | _, _ => false
theorem veq_eq {a b : Value} (h : veq a b = true) : a = b := by
  unfold veq at h
  split at h <;> simp_all
def veqL : List Value → List Value → Bool
  | [], [] => true
  | a :: r, b :: s => veq a b && veqL r s
  | _, _ => false
theorem veqL_eq : ∀ {a b : List Value}, veqL a b = true → a = b
  | [], [], _ => rfl
  | a :: r, b :: s, h => by
    simp only [veqL, Bool.and_eq_true] at h
    rw [veq_eq h.1, veqL_eq h.2]
  | [], _ :: _, h => by cases h
  | _ :: _, [], h => by cases h

def wcells (ag : Bool) (v : Value) : List Value := if ag then v.cells.toList else [v]

/-- Do the cells at an address still hold a value? -/
def opChk (ag : Bool) (x v : Value) : M Unit :=
  match x with
  | .pointer (some ⟨b, o, none⟩) => bnd (rdN b o (wcells ag v).length) fun cs => if veqL cs (wcells ag v) then ret () else fail
  | _ => fail

def Holds (ag : Bool) (x v : Value) (h : H) : Prop :=
  ∃ b o, x = .pointer (some ⟨b, o, none⟩) ∧ ∃ B, h.get b = some B ∧ B.live ∧ o + (wcells ag v).length ≤ B.cells.length ∧ ∀ (j : Nat), j < (wcells ag v).length → B.cells[o + j]? = (wcells ag v)[j]?

theorem opChk_some {ag : Bool} {x v : Value} {n : Nat} {h : H} {z : Unit × Nat × H} (e : opChk ag x v n h = some z) : z = ((), n, h) ∧ Holds ag x v h := by
  obtain ⟨q, hq⟩ : ∃ q, q = opChk ag x v := ⟨_, rfl⟩
  rw [← hq] at e
  unfold opChk at hq
  split at hq
  · rename_i b o
    subst hq
    obtain ⟨cs, n1, h1, e1, e2⟩ := bnd_some e
    have hle : ∀ B, h.get b = some B → o + (wcells ag v).length ≤ B.cells.length := by
      intro B hB
      replace e1 : rdNF b o (wcells ag v).length n h = some (cs, n1, h1) := e1
      unfold rdNF at e1
      rw [hB] at e1
      obtain ⟨bc, bk⟩ := B
      cases bk <;> simp at e1 <;> exact e1.1
    obtain ⟨rfl, rfl, hl, B, hb, hlv, hc⟩ := rdN_some e1
    by_cases hv : veqL cs (wcells ag v) = true
    · simp only [hv, if_true] at e2
      obtain ⟨u, m, k⟩ := z
      obtain ⟨rfl, rfl, rfl⟩ := ret_some e2
      refine ⟨rfl, b, o, rfl, B, hb, hlv, hle B hb, fun j hj => ?_⟩
      rw [← veqL_eq hv] at hj ⊢
      rw [(hc j (by omega)).1]
    · simp only [hv, if_false] at e2; cases e2
  · subst hq; cases e

theorem Holds.sub {ag : Bool} {x v : Value} {h k : H} (hh : Holds ag x v h) (hs : Sub h k) : Holds ag x v k := by
  obtain ⟨b, o, hx, B, hb, hl, hle, hc⟩ := hh
  exact ⟨b, o, hx, B, hs b B hb, hl, hle, hc⟩

/-- A load that saw v sees v wherever v still stands. -/
theorem look_holds {op : Op} {t : TypeId} {x : Operand} (ho : op = .load t x) {n n' : Nat} {h h' k : H} {v : Value} (e : aop P G E Γ op n h = some (v, n', h')) (hh : Holds (aggT P t) (ev G Γ x) v k) :
    n' = n ∧ h' = h ∧ aop P G E Γ op n k = some (v, n, k) := by
  subst ho
  simp only [aop] at e ⊢
  cases hu : P.underlying t with
  | none => simp only [hu] at e; cases e
  | some d =>
  cases hi : P.info? t with
  | none => simp only [hu, hi] at e; cases e
  | some i =>
  simp only [hu, hi] at e ⊢
  obtain ⟨b, o, hx, B, hb, hl, hle, hc⟩ := hh
  by_cases hag : aggT P t = true
  · simp only [hag, if_true] at e ⊢
    obtain ⟨b', o', hx', e⟩ := opLoadN_some e
    rw [hx] at hx' ⊢
    cases hx'
    obtain ⟨cs, n1, h1, e1, e2⟩ := bnd_some e
    obtain ⟨rfl, rfl, rfl⟩ := ret_some e2
    obtain ⟨rfl, rfl, hk, _⟩ := rdN_some e1
    refine ⟨rfl, rfl, ?_⟩
    have hw : wcells (aggT P t) (.agg cs.toArray) = cs := by simp [wcells, hag, cells_agg]
    rw [hw] at hc
    have : rdN b o i.size n' k = some (cs, n', k) := by
      show rdNF b o i.size n' k = _
      unfold rdNF
      rw [hb]
      obtain ⟨bc, bk⟩ := B
      have hlec : o + i.size ≤ bc.length := by rw [hw] at hle; simpa [hk] using hle
      have hcs : (bc.drop o).take i.size = cs := by
        apply List.ext_getElem?
        intro j
        by_cases hj : j < i.size
        · rw [← hc j (by omega)]; simp [List.getElem?_take, hj]
        · rw [List.getElem?_eq_none (by simp; omega), List.getElem?_eq_none (by omega)]
      cases bk <;> first | (exact absurd rfl hl) | simp [hlec, hcs]
    show bnd (rdN b o i.size) (fun cs => ret (Value.agg cs.toArray)) n' k = _
    rw [bnd_of this]
    rfl
  · simp only [hag, if_false, Bool.false_eq_true] at e ⊢
    obtain ⟨b', o', hx', e⟩ := opLoad_some e
    rw [hx] at hx' ⊢
    cases hx'
    obtain ⟨rfl, rfl, _⟩ := rd_some e
    refine ⟨rfl, rfl, ?_⟩
    have hw : wcells (aggT P t) v = [v] := by simp [wcells, hag]
    rw [hw] at hc
    have h0 := hc 0 (by simp)
    show rdF b o n' k = _
    unfold rdF
    rw [hb]
    obtain ⟨bc, bk⟩ := B
    simp at h0
    cases bk <;> first | (exact absurd rfl hl) | simp [h0]
end
end Go.Fw
