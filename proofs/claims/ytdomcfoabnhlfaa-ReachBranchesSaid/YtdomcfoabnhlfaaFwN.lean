/-
  A region that draws its order, by one run of the abstract machine.
-/
import Derived.Test.YtdomcfoabnhlfaaFwM
namespace Go.Fw

section
variable {P : Program} {G : Nat} {E : Env} {N : Nat} {ops : Array Oper}

def edgesOK (ops : Array Oper) : Bool := ops.toList.zipIdx.all fun p => p.1.after.toList.all fun e => !(Region.binds .any e) || decide (e.on < p.2)

theorem edges_lt (he : edgesOK ops = true) {j : Nat} {o : Oper} (ho : ops[j]? = some o) : ∀ e ∈ o.after, Region.binds .any e = true → e.on < j := by
  intro e hm hb
  have hmem : (o, j) ∈ ops.toList.zipIdx := by
    rw [List.mem_zipIdx_iff_getElem?]
    simpa using ho
  have := List.all_eq_true.1 he _ hmem
  have := List.all_eq_true.1 this e (by simpa using hm)
  simpa [hb] using this

def Closed (ops : Array Oper) (listed : Array Bool) : Prop := ∀ j o, ops[j]? = some o → listed.getD j false = true → ∀ e ∈ o.after, Region.binds .any e = true → listed.getD e.on false = true

theorem comp_listed {listed : Array Bool} (hc : Closed ops listed) {c : Nat} : ∀ (i : Nat) (o : Oper), ops[i]? = some o → (∀ e ∈ o.after, Region.binds .any e = true → listed.getD e.on false = true) → comp (bef ops) c i = true → listed.getD c false = true := by
  intro i
  induction i using Nat.strongRecOn with
  | _ i ih =>
    intro o ho hp hcomp
    obtain ⟨e, he, hb, h⟩ := (comp_iff ho).1 hcomp
    have hl := hp e (by simpa using he) hb
    rcases h with rfl | ⟨hlt, h⟩
    · exact hl
    · have hsz : i < ops.size := (Array.getElem?_eq_some_iff.1 ho).1
      have ho' : ops[e.on]? = some ops[e.on] := Array.getElem?_eq_getElem (by omega)
      exact ih e.on hlt _ ho' (hc e.on _ ho' hl) h

theorem wpAny_of_crun (hE : EnvOK P G E) (he : edgesOK ops = true) {β ε : Nat → Nat} {Q : Exit → Act → World → Prop} :
    ∀ (fuel : Nat) (listed : Array Bool) (C : List Nat) (Γ Γ2 : List (Nat × Value)) (h h2 : H) (ρ : Map) (a : Act) (w : World), listed.size = ops.size → (∀ i, i ∈ C ↔ i < ops.size ∧ listed.getD i true = false) → C.length ≤ fuel → Closed ops listed →
      C.Pairwise (fun c x => c ≠ x ∧ pairOK ops (bef ops) c x = true) → C.Pairwise (fun c x => ε c ≤ β x) → Crun P G E N ops β ε C [] Γ h Γ2 h2 → R G ρ h w → Live ρ N Γ a →
      (∀ a' ρ' w' Γ' h', Same Γ2 Γ' → HEq' h2 h' → Live ρ' N Γ' a' → a'.defers = a.defers → R G ρ' h' w' → Ext ρ h w ρ' h' w' → Q .normal a' w') → wpAny P .any ops Q fuel listed a w := by
  have empty : ∀ (listed : Array Bool) (C : List Nat), listed.size = ops.size → (∀ i, i ∈ C ↔ i < ops.size ∧ listed.getD i true = false) → C.Pairwise (fun c x => c ≠ x ∧ pairOK ops (bef ops) c x = true) → Region.ready .any ops listed = [] → C = [] := by
    intro listed C hsz hC hp hr
    cases C with
    | nil => rfl
    | cons c C =>
      exfalso
      obtain ⟨hc, hcl⟩ := (hC c).1 (by simp)
      have ho : ops[c]? = some ops[c] := Array.getElem?_eq_getElem hc
      have hmem : c ∈ Region.ready .any ops listed := by
        rw [mem_ready]
        refine ⟨hcl, _, ho, fun e hem hb => ?_⟩
        have hlt := edges_lt he ho e hem hb
        cases hl : listed.getD e.on false with
        | true => rfl
        | false =>
          exfalso
          have hin : e.on ∈ c :: C := (hC e.on).2 ⟨by omega, by
            have : e.on < listed.size := by omega
            simp [this] at hl ⊢
            exact hl⟩
          simp only [List.mem_cons] at hin
          rcases hin with hin | hin
          · omega
          · have := (List.pairwise_cons.1 hp).1 e.on hin
            have hcm : comp (bef ops) e.on c = true := (comp_iff ho).2 ⟨e, by simpa using hem, hb, .inl rfl⟩
            have hp2 := this.2
            unfold pairOK at hp2
            split at hp2
            · simp [hcm] at hp2
            · cases hp2
      rw [hr] at hmem
      cases hmem
  intro fuel
  induction fuel with
  | zero =>
    intro listed C Γ Γ2 h h2 ρ a w hsz hC hlen hcl hp hrg hc r l hQ
    have hC0 : C = [] := List.eq_nil_of_length_eq_zero (by omega)
    subst hC0
    cases hc
    refine ⟨?_, hQ a ρ w _ _ (.refl _) (.refl _) l rfl r (Ext.refl _ _ _)⟩
    rw [List.eq_nil_iff_forall_not_mem]
    intro j hj
    rw [mem_ready] at hj
    obtain ⟨hjl, o, ho, _⟩ := hj
    have : j ∈ ([] : List Nat) := (hC j).2 ⟨(Array.getElem?_eq_some_iff.1 ho).1, hjl⟩
    cases this
  | succ fuel ih =>
    intro listed C Γ Γ2 h h2 ρ a w hsz hC hlen hcl hp hrg hc r l hQ
    refine ⟨fun hr => ?_, fun i hi => ?_⟩
    · have hC0 := empty listed C hsz hC hp hr
      subst hC0
      cases hc
      exact hQ a ρ w _ _ (.refl _) (.refl _) l rfl r (Ext.refl _ _ _)
    · rw [mem_ready] at hi
      obtain ⟨hil, o, ho, hpre⟩ := hi
      have hisz : i < ops.size := (Array.getElem?_eq_some_iff.1 ho).1
      have hiC : i ∈ C := (hC i).2 ⟨hisz, hil⟩
      obtain ⟨C1, C2, rfl⟩ := List.append_of_mem hiC
      have hp1 : ∀ c ∈ C1, c ≠ i ∧ pairOK ops (bef ops) c i = true := fun c hcm => (List.pairwise_append.1 hp).2.2 c hcm i (by simp)
      have hncomp : ∀ c ∈ C1, comp (bef ops) c i = false := by
        intro c hcm
        cases hcc : comp (bef ops) c i with
        | false => rfl
        | true =>
          have := comp_listed hcl i o ho hpre hcc
          have hc2 := ((hC c).1 (by simp [hcm])).2
          have hcs := ((hC c).1 (by simp [hcm])).1
          have hlt : c < listed.size := by omega
          simp [hlt] at this hc2
          rw [this] at hc2; cases hc2
      obtain ⟨v, Γi, hi', Γ2', h2', e1, e2, _, e4, e5, e6⟩ := Crun.pull i C2 C1 [] Γ h Γ2 h2 (fun c hcm => ⟨(hp1 c hcm).2, hncomp c hcm⟩) (fun c hcm => .inl ((List.pairwise_append.1 hrg).2.2 c hcm i (by simp))) (by simp) hc
      have hstep : step P G E N ops i Γ (β i) h = some (Γi, ε i, hi') := by
        unfold step
        show bnd _ _ (β i) h = _
        rw [bnd_of e1, e2]
        rfl
      refine step_wpOp hE r l hstep fun a' ρ' w' l' hd' r' x' => ?_
      refine ih (listed.setIfInBounds i true) (C1 ++ C2) Γi Γ2' hi' h2' ρ' a' w' (by simpa using hsz) (fun j => ?_) (by simp at hlen ⊢; omega) (fun j oj hoj hjl e hem hb => ?_) ?_ ?_ e4 r' l' fun a2 ρ2 w2 Γ3 h3 s1 s2 l2 d2 r2 x2 => hQ a2 ρ2 w2 Γ3 h3 (e5.trans s1) (e6.trans s2) l2 (d2.trans hd') r2 (x'.trans x2)
      · have hnd : ∀ x ∈ C1 ++ C2, x ≠ i := by
          intro x hx
          rw [List.mem_append] at hx
          rcases hx with hx | hx
          · exact (hp1 x hx).1
          · have := (List.pairwise_cons.1 (List.pairwise_append.1 hp).2.1).1 x hx
            exact fun e => this.1 e.symm
        constructor
        · intro hj
          have hji := hnd j hj
          have := (hC j).1 (by simp at hj ⊢; rcases hj with hj | hj; exact .inl hj; exact .inr (.inr hj))
          refine ⟨this.1, ?_⟩
          rw [getD_set_ne _ (Ne.symm hji)]; exact this.2
        · rintro ⟨hj1, hj2⟩
          have hji : j ≠ i := by
            intro e; subst e
            have : j < listed.size := by omega
            simp [this] at hj2
          rw [getD_set_ne _ (Ne.symm hji)] at hj2
          have := (hC j).2 ⟨hj1, hj2⟩
          simp at this ⊢
          rcases this with h | h | h
          · exact .inl h
          · exact absurd h hji
          · exact .inr h
      · by_cases hji : j = i
        · subst hji
          rw [hoj] at ho
          cases ho
          exact getD_set_true (hpre e hem hb)
        · rw [getD_set_ne _ (Ne.symm hji)] at hjl
          exact getD_set_true (hcl j oj hoj hjl e hem hb)
      · exact hp.sublist (List.Sublist.append (List.Sublist.refl C1) (List.sublist_cons_self i C2))
      · exact hrg.sublist (List.Sublist.append (List.Sublist.refl C1) (List.sublist_cons_self i C2))

/-- The order in which the abstract machine runs a region is a good one. -/
def goodOrder (ops : Array Oper) (C : List Nat) : Bool :=
  edgesOK ops && C.length == ops.size && C.all (fun i => decide (i < ops.size)) && (List.range ops.size).all (fun i => C.contains i) && pairs (bef ops) C
where
  pairs (bf : List Nat) : List Nat → Bool
    | [] => true
    | c :: l => l.all (fun x => c != x && pairOK ops bf c x) && pairs bf l

theorem goodOrder_pairs : ∀ {C : List Nat}, goodOrder.pairs ops (bef ops) C = true → C.Pairwise (fun c x => c ≠ x ∧ pairOK ops (bef ops) c x = true)
  | [], _ => .nil
  | c :: l, h => by
    simp only [goodOrder.pairs, Bool.and_eq_true] at h
    refine List.pairwise_cons.2 ⟨fun x hx => ?_, goodOrder_pairs h.2⟩
    have := List.all_eq_true.1 h.1 x hx
    simpa using this

theorem draw_wp (hm : P.follows .mixedOrders = true) (hE : EnvOK P G E) {C : List Nat} (hg : goodOrder ops C = true) {β ε : Nat → Nat} (hrg : C.Pairwise (fun c x => ε c ≤ β x)) {Γ Γ2 : List (Nat × Value)} {h h2 : H} (hc : Crun P G E N ops β ε C [] Γ h Γ2 h2)
    {ρ : Map} {a : Act} {w : World} (r : R G ρ h w) (l : Live ρ N Γ a) {Q : Exit → Act → World → Prop} {id : Nat}
    (hQ : ∀ a' ρ' w', Live ρ' N Γ2 a' → a'.defers = a.defers → R G ρ' h2 w' → Ext ρ h w ρ' h2 w' → Q .normal a' w') : (Code.region id ops true).wp P Q a w := by
  simp only [goodOrder, Bool.and_eq_true, beq_iff_eq] at hg
  obtain ⟨⟨⟨⟨g1, g2⟩, g3⟩, g4⟩, g5⟩ := hg
  refine wp_region_any hm ?_
  refine wpAny_of_crun hE g1 ops.size (Array.replicate ops.size false) C Γ Γ2 h h2 ρ a w.drew (by simp) (fun i => ⟨fun hi => ?_, fun hi => ?_⟩) (by omega) (fun j o ho hj => ?_) (goodOrder_pairs g5) hrg hc r.drew l (fun a' ρ' w' Γ' h' s1 s2 l' d' r' x' => ?_)
  · have := List.all_eq_true.1 g3 i hi
    have hlt : i < ops.size := by simpa using this
    exact ⟨hlt, by simp [hlt]⟩
  · have := List.all_eq_true.1 g4 i (by simpa using hi.1)
    simpa using this
  · have hlt : j < ops.size := (Array.getElem?_eq_some_iff.1 ho).1
    simp [hlt] at hj
  · exact hQ a' ρ' w' (s1.symm.live l') d' (s2.symm.r r') (s2.symm.ext ((Ext.drew _ _ _).trans x'))
end

/-! ## The abstract machine's own run of a region, with what comes behind it -/

section
variable (P : Program) (G : Nat) (E : Env) (N : Nat) (ops : Array Oper)

/-- Is an operation another one's guard? Then its value is looked into at once. -/
def isG (i : Nat) : Bool := ops.toList.any fun o => match o.guard with
  | some (j, _) => j == i
  | none => false

def onB {β : Type} (v : Value) (t f : M β) : M β :=
  match v with
  | .bool true => t
  | .bool false => f
  | _ => fail

def onG {β : Type} (g : Bool) (v : Value) (k : Value → M β) : M β := if g then onB v (k (.bool true)) (k (.bool false)) else k v

/-- An operation, and what comes behind it: what only moves a value takes no step of its own. -/
def bop {β : Type} (Γ : List (Nat × Value)) (op : Op) (k : Value → M β) : M β :=
  match op with
  | .move x => k (ev G Γ x)
  | .assign x => k (ev G Γ x)
  | .pick c a b => onB (ev G Γ c) (k (ev G Γ a)) (k (ev G Γ b))
  | op => bnd (aop P G E Γ op) k

def chkK {β : Type} : Watch → M β → M β
  | [], m => m
  | (_, ag, x, v) :: r, m => bnd (opChk ag x v) fun _ => chkK r m

def runK {β : Type} : List Nat → List (Nat × Value) → (List (Nat × Value) → M β) → M β
  | [], Γ, K => K Γ
  | i :: l, Γ, K =>
    match ops[i]? with
    | none => fail
    | some o => match gwant ops Γ o with
      | none => fail
      | some false => (match putG N o.dst skipV Γ with
        | some Γ' => runK l Γ' K
        | none => fail)
      | some true => bop P G E Γ o.op fun v => onG (isG ops i) v fun v => (match putG N o.dst v Γ with
        | some Γ' => runK l Γ' K
        | none => fail)

def drawK {β : Type} (bf : List Nat) : List Nat → Watch → List (Nat × Value) → (List (Nat × Value) → M β) → M β
  | [], _, Γ, K => K Γ
  | i :: l, W, Γ, K =>
    match ops[i]? with
    | none => fail
    | some o => match gwant ops Γ o with
      | none => fail
      | some false => chkK (W.filter fun e => e.1 == i) (match putG N o.dst skipV Γ with
        | some Γ' => drawK bf l W Γ' K
        | none => fail)
      | some true => bop P G E Γ o.op fun v => onG (isG ops i) v fun v => chkK (W.filter fun e => e.1 == i) (match putG N o.dst v Γ with
        | some Γ' => drawK bf l (W ++ watchOf P G ops bf i Γ v l) Γ' K
        | none => fail)
end

section
variable {P : Program} {G : Nat} {E : Env} {N : Nat} {ops : Array Oper}

theorem onB_some {β : Type} {v : Value} {t f : M β} {n : Nat} {h : H} {z : β × Nat × H} (e : onB v t f n h = some z) : (v = .bool true ∧ t n h = some z) ∨ (v = .bool false ∧ f n h = some z) := by
  obtain ⟨q, hq⟩ : ∃ q, q = onB v t f := ⟨_, rfl⟩
  rw [← hq] at e
  unfold onB at hq
  split at hq
  · subst hq; exact .inl ⟨rfl, e⟩
  · subst hq; exact .inr ⟨rfl, e⟩
  · subst hq; cases e

theorem bop_some {β : Type} {Γ : List (Nat × Value)} {op : Op} {k : Value → M β} {n : Nat} {h : H} {z : β × Nat × H} (e : bop P G E Γ op k n h = some z) : bnd (aop P G E Γ op) k n h = some z := by
  unfold bop at e
  split at e
  · exact e
  · exact e
  · rcases onB_some e with ⟨hb, e⟩ | ⟨hb, e⟩
    · simp only [aop, opPick, hb]; exact e
    · simp only [aop, opPick, hb]; exact e
  · exact e

theorem onG_some {β : Type} {g : Bool} {v : Value} {k : Value → M β} {n : Nat} {h : H} {z : β × Nat × H} (e : onG g v k n h = some z) : k v n h = some z := by
  unfold onG at e
  cases g with
  | false => simpa using e
  | true =>
    simp only [if_true] at e
    rcases onB_some e with ⟨rfl, e⟩ | ⟨rfl, e⟩ <;> exact e

theorem chkK_some {β : Type} {m : M β} {n : Nat} {h : H} {z : β × Nat × H} : ∀ {W : Watch}, chkK W m n h = some z → m n h = some z ∧ ∀ e ∈ W, Holds e.2.1 e.2.2.1 e.2.2.2 h
  | [], e => ⟨e, by simp⟩
  | (i, ag, x, v) :: r, e => by
    obtain ⟨u, n1, h1, e1, e2⟩ := bnd_some e
    obtain ⟨hz, hh⟩ := opChk_some e1
    simp only [Prod.mk.injEq, true_and] at hz
    obtain ⟨rfl, rfl⟩ := hz
    obtain ⟨g1, g2⟩ := chkK_some e2
    refine ⟨g1, fun e he => ?_⟩
    rcases List.mem_cons.1 he with rfl | he
    · exact hh
    · exact g2 e he

theorem runK_runL {β : Type} {K : List (Nat × Value) → M β} {z : β × Nat × H} : ∀ (l : List Nat) (Γ : List (Nat × Value)) (n : Nat) (h : H), runK P G E N ops l Γ K n h = some z →
    ∃ Γ' n' h', runL P G E N ops l Γ n h = some (Γ', n', h') ∧ K Γ' n' h' = some z
  | [], Γ, n, h, e => ⟨Γ, n, h, rfl, e⟩
  | i :: l, Γ, n, h, e => by
    simp only [runK] at e
    cases ho : ops[i]? with
    | none => simp only [ho] at e; cases e
    | some o =>
      simp only [ho] at e
      have hd : dstOf ops i = o.dst := by simp [dstOf, ho]
      cases hg : gwant ops Γ o with
      | none => simp only [hg] at e; cases e
      | some b =>
        simp only [hg] at e
        have key : ∀ v n1 h1, sval P G E ops Γ i n h = some (v, n1, h1) → (match putG N o.dst v Γ with | some Γ' => runK P G E N ops l Γ' K | none => fail : M β) n1 h1 = some z →
            ∃ Γ' n' h', runL P G E N ops (i :: l) Γ n h = some (Γ', n', h') ∧ K Γ' n' h' = some z := by
          intro v n1 h1 e1 e2
          cases hp : putG N o.dst v Γ with
          | none => simp only [hp] at e2; cases e2
          | some Γ1 =>
            simp only [hp] at e2
            obtain ⟨Γ', n', h', g1, g2⟩ := runK_runL l Γ1 n1 h1 e2
            refine ⟨Γ', n', h', ?_, g2⟩
            have hs : step P G E N ops i Γ n h = some (Γ1, n1, h1) := by
              unfold step
              rw [bnd_of e1, hd, hp]; rfl
            unfold runL
            rw [bnd_of hs]
            exact g1
        cases b with
        | false => exact key skipV n h (by unfold sval; simp only [ho, hg]; rfl) e
        | true =>
          obtain ⟨v, n1, h1, e1, e2⟩ := bnd_some (bop_some e)
          exact key v n1 h1 (by unfold sval; simp only [ho, hg]; exact e1) (onG_some e2)

theorem Crun.agree {β ε β' ε' : Nat → Nat} {l : List Nat} {W : Watch} {Γ Γ2 : List (Nat × Value)} {h h2 : H} (c : Crun P G E N ops β ε l W Γ h Γ2 h2) : (∀ i ∈ l, β i = β' i ∧ ε i = ε' i) → Crun P G E N ops β' ε' l W Γ h Γ2 h2 := by
  induction c with
  | nil W Γ h => intro _; exact .nil _ _ _
  | cons i l W Γ Γ1 Γ2 h h1 h2 v b e1 e2 e3 e4 _ ih =>
    intro ha
    obtain ⟨hb, he⟩ := ha i (by simp)
    rw [hb, he] at e1
    exact .cons i l W Γ Γ1 Γ2 h h1 h2 v b e1 e2 e3 e4 (ih fun j hj => ha j (by simp [hj]))

theorem drawK_crun {γ : Type} {K : List (Nat × Value) → M γ} {z : γ × Nat × H} : ∀ (l : List Nat) (W : Watch) (Γ : List (Nat × Value)) (n : Nat) (h : H), l.Pairwise (· ≠ ·) → drawK P G E N ops (bef ops) l W Γ K n h = some z →
    ∃ β ε Γ2 n2 h2, Crun P G E N ops β ε l W Γ h Γ2 h2 ∧ (∀ i ∈ l, n ≤ β i ∧ β i ≤ ε i) ∧ l.Pairwise (fun c x => ε c ≤ β x) ∧ K Γ2 n2 h2 = some z
  | [], W, Γ, n, h, _, e => ⟨id, id, Γ, n, h, .nil _ _ _, by simp, .nil, e⟩
  | i :: l, W, Γ, n, h, hnd, e => by
    simp only [drawK] at e
    obtain ⟨hnd1, hnd2⟩ := List.pairwise_cons.1 hnd
    cases ho : ops[i]? with
    | none => simp only [ho] at e; cases e
    | some o =>
      simp only [ho] at e
      have hd : dstOf ops i = o.dst := by simp [dstOf, ho]
      cases hg : gwant ops Γ o with
      | none => simp only [hg] at e; cases e
      | some b =>
        simp only [hg] at e
        have key : ∀ v n1 h1, sval P G E ops Γ i n h = some (v, n1, h1) → chkK (W.filter fun e => e.1 == i) (match putG N o.dst v Γ with | some Γ' => drawK P G E N ops (bef ops) l (W ++ (if b then watchOf P G ops (bef ops) i Γ v l else [])) Γ' K | none => fail : M γ) n1 h1 = some z →
            ∃ β ε Γ2 n2 h2, Crun P G E N ops β ε (i :: l) W Γ h Γ2 h2 ∧ (∀ j ∈ i :: l, n ≤ β j ∧ β j ≤ ε j) ∧ (i :: l).Pairwise (fun c x => ε c ≤ β x) ∧ K Γ2 n2 h2 = some z := by
          intro v n1 h1 e1 e2
          obtain ⟨e2, hh⟩ := chkK_some e2
          cases hp : putG N o.dst v Γ with
          | none => simp only [hp] at e2; cases e2
          | some Γ1 =>
            simp only [hp] at e2
            obtain ⟨β, ε, Γ2, n2, h2, g1, g2, g3, g4⟩ := drawK_crun l _ Γ1 n1 h1 hnd2 e2
            have hn1 := ((sval P G E ops Γ i).loc _ _ _ _ _ e1).le
            have hne : ∀ j ∈ l, j ≠ i := fun j hj => (hnd1 j hj).symm
            refine ⟨fun j => if j = i then n else β j, fun j => if j = i then n1 else ε j, Γ2, n2, h2, .cons i l W Γ Γ1 Γ2 h h1 h2 v b (by simpa using e1) (by rw [hd]; exact hp) (fun e he hei => hh e (by simp [he, hei])) (by rw [ho]; exact hg) (g1.agree fun j hj => by simp [hne j hj]), fun j hj => ?_, ?_, g4⟩
            · rcases List.mem_cons.1 hj with rfl | hj
              · simp; omega
              · have := g2 j hj
                simp only [hne j hj, if_false]; omega
            · refine List.pairwise_cons.2 ⟨fun x hx => ?_, ?_⟩
              · have := g2 x hx
                simp only [if_true, hne x hx, if_false]; omega
              · refine g3.imp_of_mem fun {c x} hc hx hh => ?_
                simp only [hne c hc, hne x hx, if_false]; exact hh
        cases b with
        | false => exact key skipV n h (by unfold sval; simp only [ho, hg]; rfl) (by simpa using e)
        | true =>
          obtain ⟨v, n1, h1, e1, e2⟩ := bnd_some (bop_some e)
          exact key v n1 h1 (by unfold sval; simp only [ho, hg]; exact e1) (by simpa using onG_some e2)
end
end Go.Fw
