/-
  A region that draws its order: one run in a good order stands for all.
-/
import Derived.Test.YtdomcfoabnhlfaaFwL
namespace Go.Fw

/-! ## What stands before what -/

def befRow (acc : List Nat) (o : Oper) : Nat := o.after.toList.foldl (fun s e => if Region.binds .any e then s ||| 2 ^ e.on ||| acc.getD e.on 0 else s) 0
def befs : List Oper → List Nat → List Nat
  | [], acc => acc
  | o :: r, acc => befs r (acc ++ [befRow acc o])
def bef (ops : Array Oper) : List Nat := befs ops.toList []
def comp (bf : List Nat) (i x : Nat) : Bool := (bf.getD x 0).testBit i

theorem befRow_bit (acc : List Nat) (i : Nat) : ∀ (l : List Edge) (s : Nat), (l.foldl (fun s e => if Region.binds .any e then s ||| 2 ^ e.on ||| acc.getD e.on 0 else s) s).testBit i = true ↔
    (s.testBit i = true ∨ ∃ e ∈ l, Region.binds .any e = true ∧ (e.on = i ∨ (acc.getD e.on 0).testBit i = true))
  | [], s => by simp
  | e :: l, s => by
    simp only [List.foldl_cons]
    rw [befRow_bit acc i l]
    by_cases hb : Region.binds .any e = true
    · simp only [hb, if_true, Nat.testBit_or, Bool.or_eq_true, Nat.testBit_two_pow, decide_eq_true_eq, List.mem_cons]
      constructor
      · rintro (((h | h) | h) | ⟨x, hx, h⟩)
        · exact .inl h
        · exact .inr ⟨e, .inl rfl, hb, .inl h⟩
        · exact .inr ⟨e, .inl rfl, hb, .inr h⟩
        · exact .inr ⟨x, .inr hx, h⟩
      · rintro (h | ⟨x, rfl | hx, h1, h2⟩)
        · exact .inl (.inl (.inl h))
        · rcases h2 with h2 | h2
          · exact .inl (.inl (.inr h2))
          · exact .inl (.inr h2)
        · exact .inr ⟨x, hx, h1, h2⟩
    · simp only [hb, if_false, Bool.false_eq_true, List.mem_cons]
      constructor
      · rintro (h | ⟨x, hx, h⟩)
        · exact .inl h
        · exact .inr ⟨x, .inr hx, h⟩
      · rintro (h | ⟨x, rfl | hx, h1, h2⟩)
        · exact .inl h
        · exact absurd h1 hb
        · exact .inr ⟨x, hx, h1, h2⟩

theorem befs_spec : ∀ (l : List Oper) (acc : List Nat), (befs l acc).length = acc.length + l.length ∧ (∀ k, k < acc.length → (befs l acc)[k]? = acc[k]?) ∧
    ∀ k o, l[k]? = some o → (befs l acc)[acc.length + k]? = some (befRow ((befs l acc).take (acc.length + k)) o)
  | [], acc => ⟨by simp [befs], fun _ _ => rfl, by simp⟩
  | o :: l, acc => by
    obtain ⟨h1, h2, h3⟩ := befs_spec l (acc ++ [befRow acc o])
    simp only [befs]
    refine ⟨by rw [h1]; simp; omega, fun k hk => ?_, fun k x hx => ?_⟩
    · rw [h2 k (by simp; omega), List.getElem?_append_left hk]
    · cases k with
      | zero =>
        simp only [List.getElem?_cons_zero, Option.some.injEq] at hx
        subst hx
        rw [Nat.add_zero, h2 acc.length (by simp), List.getElem?_append_right (by omega)]
        simp only [Nat.sub_self, List.getElem?_cons_zero, Option.some.injEq]
        congr 1
        apply List.ext_getElem?
        intro j
        rw [List.getElem?_take]
        split
        · rename_i hj
          rw [h2 j (by simp; omega), List.getElem?_append_left hj]
        · rename_i hj
          rw [List.getElem?_eq_none (by omega)]
      | succ k =>
        have := h3 k x (by simpa using hx)
        simp only [List.length_append, List.length_cons, List.length_nil] at this
        rw [show acc.length + (k + 1) = acc.length + (0 + 1) + k by omega]
        exact this

theorem comp_iff {ops : Array Oper} {i j : Nat} {o : Oper} (ho : ops[j]? = some o) :
    comp (bef ops) i j = true ↔ ∃ e ∈ o.after.toList, Region.binds .any e = true ∧ (e.on = i ∨ (e.on < j ∧ comp (bef ops) i e.on = true)) := by
  obtain ⟨h1, _, h3⟩ := befs_spec ops.toList []
  have := h3 j o (by simpa using ho)
  simp only [List.length_nil, Nat.zero_add] at this
  have hg : (bef ops).getD j 0 = befRow ((bef ops).take j) o := by
    unfold bef
    rw [List.getD_eq_getElem?_getD, this]
    rfl
  unfold comp
  rw [hg]
  unfold befRow
  rw [befRow_bit]
  simp only [Nat.zero_testBit, Bool.false_eq_true, false_or]
  constructor
  · rintro ⟨e, he, hb, h | h⟩
    · exact ⟨e, he, hb, .inl h⟩
    · refine ⟨e, he, hb, .inr ?_⟩
      by_cases hlt : e.on < j
      · refine ⟨hlt, ?_⟩
        rw [List.getD_eq_getElem?_getD, List.getElem?_take, if_pos hlt, ← List.getD_eq_getElem?_getD] at h
        exact h
      · rw [List.getD_eq_getElem?_getD, List.getElem?_take, if_neg hlt] at h
        simp at h
  · rintro ⟨e, he, hb, h | ⟨hlt, h⟩⟩
    · exact ⟨e, he, hb, .inl h⟩
    · refine ⟨e, he, hb, .inr ?_⟩
      rw [List.getD_eq_getElem?_getD, List.getElem?_take, if_pos hlt, ← List.getD_eq_getElem?_getD]
      exact h

/-! ## The run in a good order -/

def isE (ops : Array Oper) (i : Nat) : Bool :=
  match ops[i]? with
  | some o => decide (kd o.op = .act)
  | none => false

def kindsOK : Kd → Kd → Bool
  | .pure, _ => true
  | .load, _ => true
  | .alloc, .pure => true
  | .alloc, .alloc => true
  | .act, .pure => true
  | .act, .alloc => true
  | _, _ => false

/-- c may come ahead of x, for all that is between them. -/
def pairOK (ops : Array Oper) (bf : List Nat) (c x : Nat) : Bool :=
  match ops[c]?, ops[x]? with
  | some oc, some ox => !(comp bf x c) && (comp bf c x || (oc.apart ops ox && kindsOK (kd oc.op) (kd ox.op)))
  | _, _ => false

abbrev Watch := List (Nat × Bool × Value × Value)

def watchOf (P : Program) (G : Nat) (ops : Array Oper) (bf : List Nat) (i : Nat) (Γ : List (Nat × Value)) (v : Value) (l : List Nat) : Watch :=
  match ops[i]? with
  | some o => match o.op with
    | .load t x => (l.filter fun y => isE ops y && !comp bf i y).map fun y => (y, aggT P t, ev G Γ x, v)
    | _ => []
  | none => []

section
variable (P : Program) (G : Nat) (E : Env) (N : Nat) (ops : Array Oper) (β ε : Nat → Nat)

inductive Crun : List Nat → Watch → List (Nat × Value) → H → List (Nat × Value) → H → Prop where
  | nil (W : Watch) (Γ : List (Nat × Value)) (h : H) : Crun [] W Γ h Γ h
  | cons (i : Nat) (l : List Nat) (W : Watch) (Γ Γ1 Γ2 : List (Nat × Value)) (h h1 h2 : H) (v : Value) (b : Bool) :
      sval P G E ops Γ i (β i) h = some (v, ε i, h1) → putG N (dstOf ops i) v Γ = some Γ1 → (∀ e ∈ W, e.1 = i → Holds e.2.1 e.2.2.1 e.2.2.2 h1) →
      ((ops[i]?).bind (gwant ops Γ) = some b) →
      Crun l (W ++ (if b then watchOf P G ops (bef ops) i Γ v l else [])) Γ1 h1 Γ2 h2 → Crun (i :: l) W Γ h Γ2 h2
end

section
variable {P : Program} {G : Nat} {E : Env} {N : Nat} {ops : Array Oper} {β ε : Nat → Nat}

theorem Same.watchOf {Γ Γ' : List (Nat × Value)} (hs : Same Γ Γ') (i : Nat) (v : Value) (l : List Nat) : watchOf P G ops (bef ops) i Γ v l = watchOf P G ops (bef ops) i Γ' v l := by
  unfold Fw.watchOf
  split
  · split
    · rw [hs.ev]
    · rfl
  · rfl

theorem HEq'.refl (h : H) : HEq' h h := fun _ => rfl
theorem HEq'.trans {a b c : H} (h : HEq' a b) (k : HEq' b c) : HEq' a c := fun x => (h x).trans (k x)

/-- What is the same runs the same; who watches less runs, too. -/
theorem Crun.congr {l : List Nat} {W : Watch} {Γ Γ2 : List (Nat × Value)} {h h2 : H} (c : Crun P G E N ops β ε l W Γ h Γ2 h2) :
    ∀ {W' : Watch} {Γ' : List (Nat × Value)} {h' : H}, (∀ e ∈ W', e ∈ W) → Same Γ Γ' → HEq' h h' → ∃ Γ2' h2', Crun P G E N ops β ε l W' Γ' h' Γ2' h2' ∧ Same Γ2 Γ2' ∧ HEq' h2 h2' := by
  induction c with
  | nil W Γ h => intro W' Γ' h' _ hs hh; exact ⟨Γ', h', .nil _ _ _, hs, hh⟩
  | cons i l W Γ Γ1 Γ2 h h1 h2 v b e1 e2 e3 e4 _ ih =>
    intro W' Γ' h' hW hs hh
    rw [hs.sval] at e1
    obtain ⟨h1', k1, k2⟩ := M.same _ e1 hh
    obtain ⟨Γ1', g1, g2⟩ := putG_same hs e2
    have e4' : (ops[i]?).bind (gwant ops Γ') = some b := by
      rw [← e4]; congr 1; funext o; exact (hs.gwant o).symm
    obtain ⟨Γ2', h2', r1, r2, r3⟩ := ih (W' := W' ++ (if b then watchOf P G ops (bef ops) i Γ' v l else [])) (fun e he => by
      rw [List.mem_append] at he ⊢
      rcases he with he | he
      · exact .inl (hW e he)
      · right; rw [hs.watchOf]; exact he) g2 k2
    exact ⟨Γ2', h2', .cons i l W' Γ' Γ1' Γ2' h' h1' h2' v b k1 g1 (fun e he hi => (e3 e (hW e he) hi).sub k2.sub) e4' r1, r2, r3⟩

theorem look_some {m : M Value} (hm : IsLook m) {n n' : Nat} {h h' : H} {v : Value} (e : m n h = some (v, n', h')) : n' = n ∧ h' = h := by
  cases hm with
  | rd b o => obtain ⟨h1, h2, _⟩ := rd_some e; exact ⟨h1, h2⟩
  | rdN b o k =>
    obtain ⟨cs, n1, h1, e1, e2⟩ := bnd_some e
    obtain ⟨rfl, rfl, rfl⟩ := ret_some e2
    obtain ⟨h1, h2, _⟩ := rdN_some e1
    exact ⟨h1, h2⟩
  | fail => cases e
theorem isRet_some {m : M Value} (hm : IsRet m) {n n' : Nat} {h h' : H} {v : Value} (e : m n h = some (v, n', h')) : n' = n ∧ h' = h ∧ m = ret v := by
  rcases hm with ⟨u, rfl⟩ | rfl
  · obtain ⟨rfl, rfl, rfl⟩ := ret_some e; exact ⟨rfl, rfl, rfl⟩
  · cases e
theorem isNew_some {m : M Value} (hm : IsNew m) {n n' : Nat} {h h' : H} {v : Value} (e : m n h = some (v, n', h')) :
    n' = n + 1 ∧ h.get n = none ∧ ∃ B, h' = h.set n B ∧ ∀ k : H, k.get n = none → m n k = some (v, n + 1, k.set n B) := by
  rcases hm with ⟨cs, kd, f, rfl⟩ | rfl
  · obtain ⟨b, n1, h1, e1, e2⟩ := bnd_some e
    obtain ⟨rfl, rfl, rfl⟩ := ret_some e2
    obtain ⟨rfl, rfl, hn, rfl, hall⟩ := new_some e1
    refine ⟨rfl, hn, _, rfl, fun k hk => ?_⟩
    have : new cs kd b k = some (b, b + 1, k.set b ⟨cs, kd⟩) := by
      show newF cs kd b k = _
      unfold newF
      simp [hall, hk]
    show bnd (new cs kd) (fun b => ret (f b)) b k = _
    rw [bnd_of this]
    rfl
  · cases e

/-- Two values in either order. -/
theorem comm_val {mc mi : M Value} {bc ec bi ei : Nat} {h hc hci : H} {vc v : Value} (e1 : mc bc h = some (vc, ec, hc)) (e2 : mi bi hc = some (v, ei, hci)) (hdis : ec ≤ bi ∨ ei ≤ bc)
    (hf : (IsRet mi ∨ IsNew mi) ∨ IsRet mc ∨ (IsLook mc ∧ (IsLook mi ∨ mc bc hci = some (vc, ec, hci)))) :
    ∃ hi hic, mi bi h = some (v, ei, hi) ∧ mc bc hi = some (vc, ec, hic) ∧ HEq' hci hic ∧ (IsRet mc ∨ IsLook mc → hi = hci) ∧ (IsRet mi ∨ IsNew mi → Sub hc hic) := by
  by_cases hmi : IsRet mi ∨ IsNew mi
  · rcases hmi with hr | hn
    · obtain ⟨rfl, rfl, rfl⟩ := isRet_some hr e2
      exact ⟨h, hci, rfl, e1, .refl _, fun hh => by rcases hh with hh | hh; exact (isRet_some hh e1).2.1.symm; exact (look_some hh e1).2.symm, fun _ _ _ hb => hb⟩
    · obtain ⟨rfl, hnone, B, rfl, hk⟩ := isNew_some hn e2
      have lc := mc.loc _ _ _ _ _ e1
      have hnone' : h.get bi = none := by
        cases hg : h.get bi with
        | none => rfl
        | some C =>
          have := (lc.dom bi).2 (.inl (by rw [hg]; rfl))
          rw [hnone] at this; cases this
      have hsub : Sub h (h.set bi B) := fun b C hb => by
        rw [H.get_set]
        split
        · rename_i e; subst e; rw [hnone'] at hb; cases hb
        · exact hb
      obtain ⟨k', g1, g2⟩ := lc.more (h.set bi B) hsub fun b h1 h2 => by
        rw [H.get_set_ne _ _ (by omega)]
        exact lc.fresh b h1 h2
      have hheq : HEq' (hc.set bi B) k' := fun b => by
        rw [g2, H.get_set, H.get_set]
        by_cases hb : b = bi
        · subst hb; simp [hnone]
        · simp only [hb, if_false]
          split
          · rfl
          · rename_i hs
            have : ¬ (h.get b).isSome = true := fun hh => hs ((lc.dom b).2 (.inl hh))
            have e3 : hc.get b = none := by simpa using hs
            have e4 : h.get b = none := by simpa using this
            rw [e3, e4]
      refine ⟨h.set bi B, k', hk h hnone', g1, hheq, fun hh => ?_, fun _ b C hb => ?_⟩
      · have : hc = h := by rcases hh with hh | hh; exact (isRet_some hh e1).2.1; exact (look_some hh e1).2
        rw [this]
      · rw [g2, hb]; rfl
  · rcases hf with hf | hr | ⟨hl, hf⟩
    · exact absurd hf hmi
    · obtain ⟨rfl, rfl, rfl⟩ := isRet_some hr e1
      exact ⟨hci, hci, e2, rfl, .refl _, fun _ => rfl, fun hh => absurd hh hmi⟩
    · obtain ⟨rfl, rfl⟩ := look_some hl e1
      rcases hf with hf | hf
      · obtain ⟨rfl, rfl⟩ := look_some hf e2
        exact ⟨hci, hci, e2, e1, .refl _, fun _ => rfl, fun hh => absurd hh hmi⟩
      · exact ⟨hci, hci, e2, hf, .refl _, fun _ => rfl, fun hh => absurd hh hmi⟩

theorem sval_kinds {Γ : List (Nat × Value)} {i : Nat} {o : Oper} (ho : ops[i]? = some o) :
    (kd o.op = .pure → IsRet (sval P G E ops Γ i)) ∧ (kd o.op = .load → IsRet (sval P G E ops Γ i) ∨ IsLook (sval P G E ops Γ i)) ∧ (kd o.op = .alloc → IsRet (sval P G E ops Γ i) ∨ IsNew (sval P G E ops Γ i)) := by
  unfold sval
  simp only [ho]
  cases gwant ops Γ o with
  | none => exact ⟨fun _ => .inr rfl, fun _ => .inl (.inr rfl), fun _ => .inl (.inr rfl)⟩
  | some b =>
    cases b with
    | false => exact ⟨fun _ => .inl ⟨_, rfl⟩, fun _ => .inl (.inl ⟨_, rfl⟩), fun _ => .inl (.inl ⟨_, rfl⟩)⟩
    | true => exact ⟨fun h => aop_pure h, fun h => .inr (aop_load h), fun h => .inr (aop_alloc h)⟩

theorem look_put {Γ Γ1 : List (Nat × Value)} {d : Option Tmp} {v : Value} (hp : putG N d v Γ = some Γ1) {t : Nat} (ht : d ≠ some t) : look Γ1 t = look Γ t := by
  unfold putG at hp
  split at hp
  · cases hp; rfl
  · split at hp
    · cases hp
      simp only [look]
      rw [if_neg (fun e => ht (by rw [e]))]
    · cases hp

/-- An operation that doesn't look at what was written gives the same. -/
theorem sval_apart {Γ Γ1 : List (Nat × Value)} {d : Option Tmp} {v : Value} (hp : putG N d v Γ = some Γ1) {i : Nat} {o : Oper} (ho : ops[i]? = some o) (hd : ∀ t, d = some t → t ∉ o.looksAt ops) :
    sval P G E ops Γ1 i = sval P G E ops Γ i ∧ gwant ops Γ1 o = gwant ops Γ o ∧ ∀ x ∈ o.op.operands, ev G Γ1 x = ev G Γ x := by
  have hev : ∀ x ∈ o.op.operands, ev G Γ1 x = ev G Γ x := by
    intro x hx
    cases x with
    | tmp t =>
      refine look_put hp fun e => hd t e ?_
      exact List.mem_append_left _ (List.mem_filterMap.2 ⟨.tmp t, by simpa using hx, rfl⟩)
    | _ => rfl
  have hgw : gwant ops Γ1 o = gwant ops Γ o := by
    unfold gwant
    split
    · rfl
    · rename_i j want hg
      split
      · rename_i t ht
        rw [look_put hp fun e => hd t e (by simp [Oper.looksAt, hg, ht])]
      · rfl
  refine ⟨?_, hgw, hev⟩
  unfold sval
  simp only [ho, hgw]
  rw [aop_congr hev]

theorem putG_comm {Γ Γc Γi Γci : List (Nat × Value)} {dc di : Option Tmp} {vc v : Value} (h1 : putG N dc vc Γ = some Γc) (h2 : putG N di v Γc = some Γci) (hne : ∀ t, dc = some t → di ≠ some t) (h3 : putG N di v Γ = some Γi) :
    ∃ Γic, putG N dc vc Γi = some Γic ∧ Same Γci Γic := by
  cases dc with
  | none =>
    simp only [putG, Option.some.injEq] at h1
    subst h1
    rw [h3] at h2
    cases h2
    exact ⟨Γi, rfl, .refl _⟩
  | some c =>
    simp only [putG] at h1
    split at h1
    · rename_i hc
      cases h1
      cases di with
      | none =>
        simp only [putG, Option.some.injEq] at h2 h3
        subst h2 h3
        exact ⟨_, by simp [putG, hc], .refl _⟩
      | some d =>
        simp only [putG] at h2 h3
        split at h2
        · rename_i hd
          simp only [hd, if_true, Option.some.injEq] at h2 h3
          subst h2 h3
          refine ⟨_, by simp [putG, hc]; rfl, fun t => ?_⟩
          have hcd : c ≠ d := fun e => hne c rfl (by rw [e])
          simp only [look]
          by_cases ht : t = d
          · subst ht; simp [Ne.symm hcd]
          · simp [ht]
        · cases h2
    · cases h1

theorem putG_exists {Γ Γ1 Γ2 : List (Nat × Value)} {d : Option Tmp} {v : Value} (h : putG N d v Γ1 = some Γ2) : ∃ Γ3, putG N d v Γ = some Γ3 := by
  unfold putG at h ⊢
  split at h
  · exact ⟨_, rfl⟩
  · split at h
    · rename_i hd; exact ⟨_, by simp [hd]; rfl⟩
    · cases h

/-- WHAT MAY COME FIRST CAN COME FIRST. -/
theorem Crun.pull (i : Nat) (C2 : List Nat) : ∀ (C1 : List Nat) (W : Watch) (Γ : List (Nat × Value)) (h : H) (Γ2 : List (Nat × Value)) (h2 : H), (∀ c ∈ C1, pairOK ops (bef ops) c i = true ∧ comp (bef ops) c i = false) → (∀ c ∈ C1, ε c ≤ β i ∨ ε i ≤ β c) →
    (∀ e ∈ W, isE ops e.1 = true) → Crun P G E N ops β ε (C1 ++ i :: C2) W Γ h Γ2 h2 →
    ∃ v Γi hi Γ2' h2', sval P G E ops Γ i (β i) h = some (v, ε i, hi) ∧ putG N (dstOf ops i) v Γ = some Γi ∧ (∀ e ∈ W, e.1 = i → Holds e.2.1 e.2.2.1 e.2.2.2 hi) ∧ Crun P G E N ops β ε (C1 ++ C2) W Γi hi Γ2' h2' ∧ Same Γ2 Γ2' ∧ HEq' h2 h2'
  | [], W, Γ, h, Γ2, h2, _, _, _, hc => by
    cases hc with
    | cons _ _ _ _ Γ1 _ _ h1 _ v b e1 e2 e3 e4 e5 =>
      obtain ⟨Γ2', h2', r1, r2, r3⟩ := e5.congr (W' := W) (fun e he => List.mem_append_left _ he) (.refl _) (.refl _)
      exact ⟨v, Γ1, h1, Γ2', h2', e1, e2, e3, r1, r2, r3⟩
  | c :: C1, W, Γ, h, Γ2, h2, hp, hd, hW, hc => by
    cases hc with
    | cons _ _ _ _ Γc _ _ hc' _ vc b e1 e2 e3 e4 e5 =>
    obtain ⟨hpc, hcomp⟩ := hp c (by simp)
    have hdc := hd c (by simp)
    obtain ⟨oc, oi, hoc, hoi, hap, hk⟩ : ∃ oc oi, ops[c]? = some oc ∧ ops[i]? = some oi ∧ oc.apart ops oi = true ∧ kindsOK (kd oc.op) (kd oi.op) = true := by
      unfold pairOK at hpc
      split at hpc
      · rename_i oc oi hoc hoi
        simp only [hcomp, Bool.false_or, Bool.and_eq_true] at hpc
        exact ⟨oc, oi, hoc, hoi, hpc.2.1, hpc.2.2⟩
      · cases hpc
    obtain ⟨ap1, ap2, ap3⟩ := Oper.apart_spec hap
    have hdc1 : dstOf ops c = oc.dst := by simp [dstOf, hoc]
    have hdi1 : dstOf ops i = oi.dst := by simp [dstOf, hoi]
    have hW' : ∀ e ∈ W ++ (if b then watchOf P G ops (bef ops) c Γ vc (C1 ++ i :: C2) else []), isE ops e.1 = true := by
      intro e he
      rw [List.mem_append] at he
      rcases he with he | he
      · exact hW e he
      · cases b with
        | false => simp at he
        | true =>
          simp only [if_true] at he
          unfold watchOf at he
          simp only [hoc] at he
          split at he
          · simp only [List.mem_map, List.mem_filter, Bool.and_eq_true] at he
            obtain ⟨y, ⟨_, hy, _⟩, rfl⟩ := he
            exact hy
          · simp at he
    obtain ⟨v, Γci, hci, Γ2', h2', f1, f2, f3, f4, f5, f6⟩ := Crun.pull i C2 C1 _ Γc hc' Γ2 h2 (fun x hx => hp x (by simp [hx])) (fun x hx => hd x (by simp [hx])) hW' e5
    -- i ahead of c
    obtain ⟨hsi, _, _⟩ := sval_apart (P := P) (G := G) (E := E) e2 hoi (fun t ht => ap1 t (by rw [← hdc1]; exact ht))
    rw [hsi] at f1
    obtain ⟨Γi, hΓi⟩ : ∃ Γi, putG N (dstOf ops i) v Γ = some Γi := putG_exists f2
    obtain ⟨hsc, hgc, hevc⟩ := sval_apart (P := P) (G := G) (E := E) hΓi hoc (fun t ht => ap3 t (by rw [← hdi1]; exact ht))
    obtain ⟨Γic, hΓic, hsame⟩ := putG_comm e2 f2 (fun t ht => by rw [hdi1]; exact ap2 t (by rw [← hdc1]; exact ht)) hΓi
    obtain ⟨c1, c2, c3⟩ := sval_kinds (P := P) (G := G) (E := E) (Γ := Γ) hoc
    obtain ⟨i1, i2, i3⟩ := sval_kinds (P := P) (G := G) (E := E) (Γ := Γ) hoi
    have hbc : gwant ops Γ oc = some b := by rw [hoc] at e4; exact e4
    have hf : (IsRet (sval P G E ops Γ i) ∨ IsNew (sval P G E ops Γ i)) ∨ IsRet (sval P G E ops Γ c) ∨ (IsLook (sval P G E ops Γ c) ∧ (IsLook (sval P G E ops Γ i) ∨ sval P G E ops Γ c (β c) hci = some (vc, ε c, hci))) := by
      cases hkc : kd oc.op with
      | pure => exact .inr (.inl (c1 hkc))
      | alloc =>
        rw [hkc] at hk
        cases hki : kd oi.op <;> rw [hki] at hk <;> first | exact .inl (.inl (i1 hki)) | exact .inl (i3 hki) | cases hk
      | act =>
        rw [hkc] at hk
        cases hki : kd oi.op <;> rw [hki] at hk <;> first | exact .inl (.inl (i1 hki)) | exact .inl (i3 hki) | cases hk
      | load =>
        rcases c2 hkc with hr | hl
        · exact .inr (.inl hr)
        · cases hki : kd oi.op with
          | pure => exact .inl (.inl (i1 hki))
          | alloc => exact .inl (i3 hki)
          | load =>
            rcases i2 hki with hr | hli
            · exact .inl (.inl hr)
            · exact .inr (.inr ⟨hl, .inl hli⟩)
          | act =>
            cases b with
            | false =>
              right; left
              have : sval P G E ops Γ c = ret skipV := by unfold sval; simp only [hoc, hbc]
              exact .inl ⟨_, this⟩
            | true =>
              refine .inr (.inr ⟨hl, .inr ?_⟩)
              obtain ⟨t, x, hop⟩ : ∃ t x, oc.op = .load t x := by
                cases hop : oc.op <;> rw [hop] at hkc <;> simp only [kd] at hkc <;> try (cases hkc; done)
                case load t x => exact ⟨t, x, rfl⟩
                case call cc => split at hkc <;> cases hkc
              have hmem : ((i, aggT P t, ev G Γ x, vc) : Nat × Bool × Value × Value) ∈ watchOf P G ops (bef ops) c Γ vc (C1 ++ i :: C2) := by
                unfold watchOf
                simp only [hoc, hop, List.mem_map, List.mem_filter, Bool.and_eq_true]
                refine ⟨i, ⟨by simp, by simp [isE, hoi, hki], by simp [hcomp]⟩, rfl⟩
              have hh := f3 _ (List.mem_append_right _ (by simpa using hmem)) rfl
              have hsv : sval P G E ops Γ c = aop P G E Γ oc.op := by unfold sval; simp only [hoc, hbc]
              rw [hsv] at e1 ⊢
              obtain ⟨g1, g2, _⟩ := look_holds hop e1 hh
              rw [g1] at e1 ⊢
              exact (look_holds hop e1 hh).2.2
    obtain ⟨hi, hic, k1, k2, k3, k4, k5⟩ := comm_val e1 f1 hdc hf
    obtain ⟨Γ3, h3, g1, g2, g3⟩ := f4.congr (W' := W ++ (if b then watchOf P G ops (bef ops) c Γi vc (C1 ++ C2) else [])) (fun e he => by
      rw [List.mem_append] at he ⊢
      rcases he with he | he
      · exact .inl he
      · right
        cases b with
        | false => simp at he
        | true =>
          simp only [if_true] at he ⊢
          unfold watchOf at he ⊢
          simp only [hoc] at he ⊢
          split at he
          · rename_i t x hop
            rw [hevc x (by simp [hop, Op.operands])] at he
            simp only [List.mem_map, List.mem_filter] at he ⊢
            obtain ⟨y, ⟨hy, hy2⟩, rfl⟩ := he
            exact ⟨y, ⟨by simp at hy ⊢; rcases hy with hy | hy; exact .inl hy; exact .inr (.inr hy), hy2⟩, rfl⟩
          · simp at he) hsame k3
    refine ⟨v, Γi, hi, Γ3, h3, k1, hΓi, fun e he hei => ?_, ?_, f5.trans g2, f6.trans g3⟩
    · -- i is an act: c only looks
      have hie : isE ops i = true := by rw [← hei]; exact hW e he
      have hki : kd oi.op = .act := by simpa [isE, hoi] using hie
      have hcl : IsRet (sval P G E ops Γ c) ∨ IsLook (sval P G E ops Γ c) := by
        rw [hki] at hk
        cases hkc : kd oc.op <;> rw [hkc] at hk <;> first | exact .inl (c1 hkc) | exact c2 hkc | cases hk
      rw [k4 hcl]
      exact f3 e (List.mem_append_left _ he) hei
    · refine .cons c (C1 ++ C2) W Γi Γic Γ3 hi hic h3 vc b (by rw [hsc]; exact k2) hΓic (fun e he hec => ?_) (by rw [hoc]; exact hgc.trans hbc) g1
      have hce : isE ops c = true := by rw [← hec]; exact hW e he
      have hkc : kd oc.op = .act := by simpa [isE, hoc] using hce
      have hin : IsRet (sval P G E ops Γ i) ∨ IsNew (sval P G E ops Γ i) := by
        rw [hkc] at hk
        cases hki : kd oi.op <;> rw [hki] at hk <;> first | exact .inl (i1 hki) | exact i3 hki | cases hk
      exact (e3 e he hec).sub (k5 hin)
end
end Go.Fw
