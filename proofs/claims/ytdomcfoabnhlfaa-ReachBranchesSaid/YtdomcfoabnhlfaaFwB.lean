/-
  The abstract machine's monad, its steps on the heap, and what each does in a world that the heap speaks of.
-/
import Derived.Test.YtdomcfoabnhlfaaFwA
namespace Go.Fw

/-! ## The monad: what is run is local: in a heap that has more, it does the same -/

/-- K has all that h has, and just so. -/
def Sub (h k : H) : Prop := ∀ b B, h.get b = some B → k.get b = some B

structure Loc1 {α : Type} (f : Nat → H → Option (α × Nat × H)) (n : Nat) (h : H) (a : α) (n' : Nat) (h' : H) : Prop where
  le : n ≤ n'
  fresh : ∀ b, n ≤ b → b < n' → h.get b = none
  dom : ∀ b, (h'.get b).isSome = true ↔ ((h.get b).isSome = true ∨ (n ≤ b ∧ b < n'))
  more : ∀ k, Sub h k → (∀ b, n ≤ b → b < n' → k.get b = none) → ∃ k', f n k = some (a, n', k') ∧ ∀ b, k'.get b = if (h'.get b).isSome then h'.get b else k.get b

def Local {α : Type} (f : Nat → H → Option (α × Nat × H)) : Prop := ∀ n h a n' h', f n h = some (a, n', h') → Loc1 f n h a n' h'

structure M (α : Type) where
  run : Nat → H → Option (α × Nat × H)
  loc : Local run

instance {α : Type} : CoeFun (M α) (fun _ => Nat → H → Option (α × Nat × H)) := ⟨M.run⟩

theorem M.ext {α : Type} {m m' : M α} (h : ∀ n k, m n k = m' n k) : m = m' := by
  obtain ⟨f, _⟩ := m
  obtain ⟨g, _⟩ := m'
  have : f = g := funext fun n => funext fun k => h n k
  subst this
  rfl

theorem Local.same {α : Type} (a : α) : Local fun n h => some (a, n, h) := by
  intro n h b n' h' e
  simp only [Option.some.injEq, Prod.mk.injEq] at e
  obtain ⟨rfl, rfl, rfl⟩ := e
  refine ⟨Nat.le_refl _, fun b h1 h2 => by omega, fun b => ⟨.inl, fun h => h.elim id fun h => by omega⟩, fun k hk _ => ⟨k, rfl, fun b => ?_⟩⟩
  split
  · rename_i hs
    obtain ⟨B, hB⟩ := Option.isSome_iff_exists.1 hs
    rw [hB, hk b B hB]
  · rfl

/-- What only looks, and tells the same of what is the same. -/
theorem Local.look {α : Type} (f : Nat → H → Option (α × Nat × H)) (h1 : ∀ n h a n' h', f n h = some (a, n', h') → n' = n ∧ h' = h)
    (h2 : ∀ n h k a n' h', f n h = some (a, n', h') → Sub h k → f n k = some (a, n, k)) : Local f := by
  intro n h b n' h' e
  obtain ⟨rfl, rfl⟩ := h1 _ _ _ _ _ e
  refine ⟨Nat.le_refl _, fun b h1 h2 => by omega, fun b => ⟨.inl, fun h => h.elim id fun h => by omega⟩, fun k hk _ => ⟨k, h2 _ _ k _ _ _ e hk, fun b => ?_⟩⟩
  split
  · rename_i hs
    obtain ⟨B, hB⟩ := Option.isSome_iff_exists.1 hs
    rw [hB, hk b B hB]
  · rfl

/-- What turns one block that is there. -/
theorem Local.turn {α : Type} (f : Nat → H → Option (α × Nat × H)) (h1 : ∀ n h a n' h', f n h = some (a, n', h') → n' = n ∧ ∃ b B, (h.get b).isSome = true ∧ h' = h.set b B ∧ ∀ k : H, k.get b = h.get b → f n k = some (a, n, k.set b B)) : Local f := by
  intro n h b n' h' e
  obtain ⟨rfl, b0, B, hb, rfl, hf⟩ := h1 _ _ _ _ _ e
  refine ⟨Nat.le_refl _, fun b h1 h2 => by omega, fun b => ?_, fun k hk _ => ⟨k.set b0 B, hf k ?_, fun b => ?_⟩⟩
  · rw [H.get_set]
    split
    · rename_i e; subst e; simp [hb]
    · exact ⟨.inl, fun h => h.elim id fun h => by omega⟩
  · obtain ⟨C, hC⟩ := Option.isSome_iff_exists.1 hb
    rw [hC, hk b0 C hC]
  · rw [H.get_set, H.get_set]
    split
    · rfl
    · split
      · rename_i hs
        obtain ⟨C, hC⟩ := Option.isSome_iff_exists.1 hs
        rw [hC, hk b C hC]
      · rfl

theorem Local.nothing {α : Type} : Local fun (_ : Nat) (_ : H) => (none : Option (α × Nat × H)) := by
  intro n h b n' h' e
  cases e

theorem Local.bind {α β : Type} (m : M α) (k : α → M β) : Local fun n h =>
    match m n h with
    | none => none
    | some (a, n', h') => k a n' h' := by
  intro n h b n2 h2 e
  dsimp only at e
  split at e
  · cases e
  · rename_i a n1 h1 e1
    have l1 := m.loc _ _ _ _ _ e1
    have l2 := (k a).loc _ _ _ _ _ e
    refine ⟨Nat.le_trans l1.le l2.le, fun b hb1 hb2 => ?_, fun b => ?_, fun K hK hf => ?_⟩
    · by_cases hlt : b < n1
      · exact l1.fresh b hb1 hlt
      · have := l2.fresh b (by omega) hb2
        cases hg : h.get b with
        | none => rfl
        | some B =>
          have : (h1.get b).isSome = true := (l1.dom b).2 (.inl (by rw [hg]; rfl))
          rw [l2.fresh b (by omega) hb2] at this
          cases this
    · rw [l2.dom, l1.dom]
      have := l1.le; have := l2.le
      constructor
      · rintro ((h | h) | h)
        · exact .inl h
        · exact .inr (by omega)
        · exact .inr (by omega)
      · rintro (h | h)
        · exact .inl (.inl h)
        · by_cases hlt : b < n1
          · exact .inl (.inr (by omega))
          · exact .inr (by omega)
    · have := l1.le; have := l2.le
      obtain ⟨K1, hK1, hg1⟩ := l1.more K hK fun b hb1 hb2 => hf b hb1 (by omega)
      obtain ⟨K2, hK2, hg2⟩ := l2.more K1 (fun b B hB => by rw [hg1, hB]; rfl) fun b hb1 hb2 => by
        rw [hg1]
        have hKb := hf b (by omega) hb2
        have hn : h1.get b = none := l2.fresh b hb1 hb2
        rw [hn]; exact hKb
      refine ⟨K2, by rw [hK1]; exact hK2, fun b => ?_⟩
      rw [hg2]
      by_cases hs : (h2.get b).isSome = true
      · simp only [hs, if_true]
      · simp only [hs, if_false, Bool.false_eq_true]
        rw [hg1]
        have hn : ¬ (h1.get b).isSome = true := fun h => hs ((l2.dom b).2 (.inl h))
        simp only [hn, if_false, Bool.false_eq_true]

def ret {α : Type} (a : α) : M α := ⟨fun n h => some (a, n, h), Local.same a⟩
def bnd {α β : Type} (m : M α) (k : α → M β) : M β := ⟨fun n h =>
  match m.run n h with
  | none => none
  | some (a, n', h') => (k a).run n' h', Local.bind m k⟩
def fail {α : Type} : M α := ⟨fun _ _ => none, Local.nothing⟩

theorem bnd_some {α β : Type} {m : M α} {k : α → M β} {n : Nat} {h : H} {x : β × Nat × H} (e : bnd m k n h = some x) : ∃ a n' h', m n h = some (a, n', h') ∧ k a n' h' = some x := by
  unfold bnd at e
  dsimp only at e
  split at e
  · cases e
  · rename_i a n' h' e'
    exact ⟨a, n', h', e', e⟩
theorem bnd_of {α β : Type} {m : M α} {k : α → M β} {n n' : Nat} {h h' : H} {a : α} (e : m n h = some (a, n', h')) : bnd m k n h = k a n' h' := by
  unfold bnd; dsimp only; rw [e]
@[simp] theorem ret_bnd {α β : Type} (a : α) (k : α → M β) : bnd (ret a) k = k a := rfl
@[simp] theorem bnd_ret {α : Type} (m : M α) : bnd m ret = m := by
  refine M.ext fun n h => ?_
  unfold bnd ret; dsimp only
  cases m.run n h <;> rfl
@[simp] theorem bnd_assoc {α β γ : Type} (m : M α) (k : α → M β) (l : β → M γ) : bnd (bnd m k) l = bnd m fun a => bnd (k a) l := by
  refine M.ext fun n h => ?_
  unfold bnd; dsimp only
  cases m.run n h <;> rfl
@[simp] theorem fail_bnd {α β : Type} (k : α → M β) : bnd (fail : M α) k = fail := rfl

/-! ## Steps on the heap -/

def dead : Blk := ⟨[], .dead⟩

def rdF (b o : Nat) : Nat → H → Option (Value × Nat × H) := fun n h =>
  match h.get b with
  | some ⟨_, .dead⟩ => none
  | some ⟨cs, _⟩ => match cs[o]? with
    | some v => some (v, n, h)
    | none => none
  | none => none

def rdNF (b o k : Nat) : Nat → H → Option (List Value × Nat × H) := fun n h =>
  match h.get b with
  | some ⟨_, .dead⟩ => none
  | some ⟨cs, _⟩ => if o + k ≤ cs.length then some ((cs.drop o).take k, n, h) else none
  | none => none

/-- A list in which some have been put over, from a place on. -/
def over (cs : List Value) (o : Nat) (vs : List Value) : List Value := cs.take o ++ vs ++ cs.drop (o + vs.length)

def wr1F (b o : Nat) (v : Value) : Nat → H → Option (Unit × Nat × H) := fun n h =>
  if one v then
    match h.get b with
    | some ⟨cs, .own⟩ => if o < cs.length then some ((), n, h.set b ⟨cs.set o v, .own⟩) else none
    | some ⟨cs, .grow⟩ => if o < cs.length then some ((), n, h.set b ⟨cs.set o v, .grow⟩) else none
    | _ => none
  else none

def wrNF (b o : Nat) (vs : List Value) : Nat → H → Option (Unit × Nat × H) := fun n h =>
  if vs.all one then
    match h.get b with
    | some ⟨cs, .own⟩ => if o + vs.length ≤ cs.length then some ((), n, h.set b ⟨over cs o vs, .own⟩) else none
    | some ⟨cs, .grow⟩ => if o + vs.length ≤ cs.length then some ((), n, h.set b ⟨over cs o vs, .grow⟩) else none
    | _ => none
  else none

def newF (cs : List Value) (k : Kind) : Nat → H → Option (Nat × Nat × H) := fun n h =>
  if cs.all one then
    match h.get n with
    | none => some (n, n + 1, h.set n ⟨cs, k⟩)
    | some _ => none
  else none

def killF (b : Nat) : Nat → H → Option (Unit × Nat × H) := fun n h =>
  match h.get b with
  | some ⟨_, .grow⟩ => some ((), n, h.set b dead)
  | _ => none

theorem rdF_local (b o : Nat) : Local (rdF b o) := by
  refine Local.look _ (fun n h a n' h' e => ?_) (fun n h k a n' h' e hk => ?_)
  · unfold rdF at e
    split at e
    · cases e
    · split at e
      · simp only [Option.some.injEq, Prod.mk.injEq] at e; exact ⟨e.2.1.symm, e.2.2.symm⟩
      · cases e
    · cases e
  · unfold rdF at e ⊢
    split at e
    · cases e
    · rename_i hb
      rw [hk _ _ hb]
      split at e
      · rename_i hv
        simp only [Option.some.injEq, Prod.mk.injEq] at e
        obtain ⟨rfl, rfl, rfl⟩ := e
        simp [hv]
      · cases e
    · cases e

def mpGetF (b : Nat) : Nat → H → Option (List Value × Nat × H) := fun n h =>
  match h.get b with
  | some ⟨.nilFunc :: cs, .dead⟩ => some (cs, n, h)
  | _ => none
def mpSetF (b : Nat) (vs : List Value) : Nat → H → Option (Unit × Nat × H) := fun n h =>
  match h.get b with
  | some ⟨.nilFunc :: _, .dead⟩ => some ((), n, h.set b ⟨.nilFunc :: vs, .dead⟩)
  | _ => none
theorem mpGetF_local (b : Nat) : Local (mpGetF b) := by
  refine Local.look _ (fun n h a n' h' e => ?_) (fun n h k a n' h' e hk => ?_)
  · unfold mpGetF at e
    split at e
    · simp only [Option.some.injEq, Prod.mk.injEq] at e; exact ⟨e.2.1.symm, e.2.2.symm⟩
    · cases e
  · unfold mpGetF at e ⊢
    split at e
    · rename_i hb
      rw [hk _ _ hb]
      simp only [Option.some.injEq, Prod.mk.injEq] at e
      obtain ⟨rfl, rfl, rfl⟩ := e
      rfl
    · cases e
theorem mpSetF_local (b : Nat) (vs : List Value) : Local (mpSetF b vs) := by
  refine Local.turn _ fun n h a n' h' e => ?_
  unfold mpSetF at e
  split at e
  · rename_i cs hb
    simp only [Option.some.injEq, Prod.mk.injEq] at e
    obtain ⟨-, rfl, rfl⟩ := e
    refine ⟨rfl, b, _, by rw [hb]; rfl, rfl, fun k hk => ?_⟩
    unfold mpSetF
    rw [hk, hb]
  · cases e

theorem rdNF_local (b o k : Nat) : Local (rdNF b o k) := by
  refine Local.look _ (fun n h a n' h' e => ?_) (fun n h k a n' h' e hk => ?_)
  · unfold rdNF at e
    split at e
    · cases e
    · split at e
      · simp only [Option.some.injEq, Prod.mk.injEq] at e; exact ⟨e.2.1.symm, e.2.2.symm⟩
      · cases e
    · cases e
  · unfold rdNF at e ⊢
    split at e
    · cases e
    · rename_i hb
      rw [hk _ _ hb]
      split at e
      · rename_i hv
        simp only [Option.some.injEq, Prod.mk.injEq] at e
        obtain ⟨rfl, rfl, rfl⟩ := e
        simp [hv]
      · cases e
    · cases e

theorem wr1F_local (b o : Nat) (v : Value) : Local (wr1F b o v) := by
  refine Local.turn _ fun n h a n' h' e => ?_
  unfold wr1F at e
  split at e
  · rename_i h1
    split at e
    · rename_i cs hb
      split at e
      · rename_i hlt
        simp only [Option.some.injEq, Prod.mk.injEq] at e
        obtain ⟨-, rfl, rfl⟩ := e
        refine ⟨rfl, b, _, by rw [hb]; rfl, rfl, fun k hk => ?_⟩
        simp [wr1F, h1, hk, hb, hlt]
      · cases e
    · rename_i cs hb
      split at e
      · rename_i hlt
        simp only [Option.some.injEq, Prod.mk.injEq] at e
        obtain ⟨-, rfl, rfl⟩ := e
        refine ⟨rfl, b, _, by rw [hb]; rfl, rfl, fun k hk => ?_⟩
        simp [wr1F, h1, hk, hb, hlt]
      · cases e
    · cases e
  · cases e

theorem wrNF_local (b o : Nat) (vs : List Value) : Local (wrNF b o vs) := by
  refine Local.turn _ fun n h a n' h' e => ?_
  unfold wrNF at e
  split at e
  · rename_i h1
    split at e
    · rename_i cs hb
      split at e
      · rename_i hlt
        simp only [Option.some.injEq, Prod.mk.injEq] at e
        obtain ⟨-, rfl, rfl⟩ := e
        refine ⟨rfl, b, _, by rw [hb]; rfl, rfl, fun k hk => ?_⟩
        unfold wrNF
        rw [if_pos h1, hk, hb]
        simp only [hlt, if_true]
      · cases e
    · rename_i cs hb
      split at e
      · rename_i hlt
        simp only [Option.some.injEq, Prod.mk.injEq] at e
        obtain ⟨-, rfl, rfl⟩ := e
        refine ⟨rfl, b, _, by rw [hb]; rfl, rfl, fun k hk => ?_⟩
        unfold wrNF
        rw [if_pos h1, hk, hb]
        simp only [hlt, if_true]
      · cases e
    · cases e
  · cases e

theorem killF_local (b : Nat) : Local (killF b) := by
  refine Local.turn _ fun n h a n' h' e => ?_
  unfold killF at e
  split at e
  · rename_i cs hb
    simp only [Option.some.injEq, Prod.mk.injEq] at e
    obtain ⟨-, rfl, rfl⟩ := e
    refine ⟨rfl, b, _, by rw [hb]; rfl, rfl, fun k hk => ?_⟩
    simp [killF, hk, hb]
  · cases e

theorem newF_local (cs : List Value) (kd : Kind) : Local (newF cs kd) := by
  intro n h a n' h' e
  unfold newF at e
  split at e
  · rename_i h1
    split at e
    · rename_i hn
      simp only [Option.some.injEq, Prod.mk.injEq] at e
      obtain ⟨rfl, rfl, rfl⟩ := e
      refine ⟨by omega, fun b hb1 hb2 => by rw [show b = n by omega]; exact hn, fun b => ?_, fun k hk hf => ?_⟩
      · rw [H.get_set]
        split
        · rename_i e; subst e; simp
        · exact ⟨.inl, fun h => h.elim id fun h => by omega⟩
      · refine ⟨k.set n ⟨cs, kd⟩, by simp [newF, h1, hf n (Nat.le_refl _) (by omega)], fun b => ?_⟩
        rw [H.get_set, H.get_set]
        split
        · rfl
        · split
          · rename_i hs
            obtain ⟨C, hC⟩ := Option.isSome_iff_exists.1 hs
            rw [hC, hk b C hC]
          · rfl
    · cases e
  · cases e

def rd (b o : Nat) : M Value := ⟨rdF b o, rdF_local b o⟩
def rdN (b o k : Nat) : M (List Value) := ⟨rdNF b o k, rdNF_local b o k⟩
def wr1 (b o : Nat) (v : Value) : M Unit := ⟨wr1F b o v, wr1F_local b o v⟩
def wrN (b o : Nat) (vs : List Value) : M Unit := ⟨wrNF b o vs, wrNF_local b o vs⟩
def new (cs : List Value) (k : Kind) : M Nat := ⟨newF cs k, newF_local cs k⟩
def kill (b : Nat) : M Unit := ⟨killF b, killF_local b⟩

def mpGet (b : Nat) : M (List Value) := ⟨mpGetF b, mpGetF_local b⟩
def mpSet (b : Nat) (vs : List Value) : M Unit := ⟨mpSetF b vs, mpSetF_local b vs⟩

/-! ## What they say -/

theorem mpGet_some {b n n' : Nat} {h h' : H} {cs : List Value} (e : mpGet b n h = some (cs, n', h')) : n' = n ∧ h' = h ∧ h.get b = some ⟨.nilFunc :: cs, .dead⟩ := by
  replace e : mpGetF b n h = some (cs, n', h') := e
  unfold mpGetF at e
  split at e
  · rename_i hb
    simp only [Option.some.injEq, Prod.mk.injEq] at e
    obtain ⟨rfl, rfl, rfl⟩ := e
    exact ⟨rfl, rfl, hb⟩
  · cases e
theorem mpSet_some {b n n' : Nat} {h h' : H} {vs : List Value} {u : Unit} (e : mpSet b vs n h = some (u, n', h')) : n' = n ∧ h' = h.set b ⟨.nilFunc :: vs, .dead⟩ := by
  replace e : mpSetF b vs n h = some (u, n', h') := e
  unfold mpSetF at e
  split at e
  · simp only [Option.some.injEq, Prod.mk.injEq, true_and] at e
    exact ⟨e.1.symm, e.2.symm⟩
  · cases e

theorem rd_some {b o n n' : Nat} {h h' : H} {v : Value} (e : rd b o n h = some (v, n', h')) : n' = n ∧ h' = h ∧ ∃ B, h.get b = some B ∧ B.live ∧ B.cells[o]? = some v := by
  replace e : rdF b o n h = some (v, n', h') := e
  unfold rdF at e
  split at e
  · cases e
  · rename_i cs k hk hb
    split at e
    · rename_i v' hv
      simp only [Option.some.injEq, Prod.mk.injEq] at e
      obtain ⟨rfl, rfl, rfl⟩ := e
      exact ⟨rfl, rfl, _, hb, fun hd => hk hd, hv⟩
    · cases e
  · cases e

theorem rdN_some {b o k n n' : Nat} {h h' : H} {vs : List Value} (e : rdN b o k n h = some (vs, n', h')) :
    n' = n ∧ h' = h ∧ vs.length = k ∧ ∃ B, h.get b = some B ∧ B.live ∧ ∀ (j : Nat), j < k → vs[j]? = B.cells[o + j]? ∧ o + j < B.cells.length := by
  replace e : rdNF b o k n h = some (vs, n', h') := e
  unfold rdNF at e
  split at e
  · cases e
  · rename_i cs kd hk hb
    split at e
    · rename_i hle
      simp only [Option.some.injEq, Prod.mk.injEq] at e
      obtain ⟨rfl, rfl, rfl⟩ := e
      refine ⟨rfl, rfl, ?_, _, hb, fun hd => hk hd, fun j hj => ⟨?_, ?_⟩⟩
      · simp; omega
      · simp [List.getElem?_take, hj]
      · simp; omega
    · cases e
  · cases e

theorem over_length {cs : List Value} {o : Nat} {vs : List Value} (h : o + vs.length ≤ cs.length) : (over cs o vs).length = cs.length := by
  simp [over]; omega

theorem over_get {cs : List Value} {o : Nat} {vs : List Value} (h : o + vs.length ≤ cs.length) (i : Nat) :
    (over cs o vs)[i]? = if o ≤ i ∧ i < o + vs.length then vs[i - o]? else cs[i]? := by
  unfold over
  by_cases h1 : i < o
  · rw [if_neg (by omega), List.append_assoc, List.getElem?_append_left (by simp; omega), List.getElem?_take, if_pos h1]
  · by_cases h2 : i < o + vs.length
    · rw [if_pos (by omega), List.getElem?_append_left (by simp; omega), List.getElem?_append_right (by simp; omega)]
      congr 1; simp; omega
    · rw [if_neg (by omega), List.getElem?_append_right (by simp; omega), List.getElem?_drop]
      congr 1; simp; omega

theorem wrN_some {b o n n' : Nat} {h h' : H} {vs : List Value} {u : Unit} (e : wrN b o vs n h = some (u, n', h')) :
    n' = n ∧ ∃ B, h.get b = some B ∧ B.mine ∧ o + vs.length ≤ B.cells.length ∧ h' = h.set b ⟨over B.cells o vs, B.kind⟩ ∧ vs.all one = true := by
  replace e : wrNF b o vs n h = some (u, n', h') := e
  unfold wrNF at e
  split at e
  · rename_i h1
    split at e
    · rename_i cs hb
      split at e
      · simp only [Option.some.injEq, Prod.mk.injEq, true_and] at e
        obtain ⟨rfl, rfl⟩ := e
        exact ⟨rfl, _, hb, .inl rfl, by assumption, rfl, h1⟩
      · cases e
    · rename_i cs hb
      split at e
      · simp only [Option.some.injEq, Prod.mk.injEq, true_and] at e
        obtain ⟨rfl, rfl⟩ := e
        exact ⟨rfl, _, hb, .inr rfl, by assumption, rfl, h1⟩
      · cases e
    · cases e
  · cases e

theorem set_over {cs : List Value} {o : Nat} {v : Value} (h : o < cs.length) : cs.set o v = over cs o [v] := by
  apply List.ext_getElem?
  intro i
  rw [over_get (by simp; omega), List.getElem?_set]
  by_cases h1 : o = i
  · subst h1; simp [h]
  · rw [if_neg h1, if_neg (by simp; omega)]

theorem wr1_some {b o n n' : Nat} {h h' : H} {v : Value} {u : Unit} (e : wr1 b o v n h = some (u, n', h')) : wrN b o [v] n h = some (u, n', h') := by
  replace e : wr1F b o v n h = some (u, n', h') := e
  show wrNF b o [v] n h = some (u, n', h')
  unfold wr1F at e
  unfold wrNF
  split at e
  · rename_i h1
    simp only [List.all_cons, h1, List.all_nil, Bool.and_self, if_true, List.length_cons, List.length_nil, Nat.zero_add]
    split at e
    · rename_i cs hb
      split at e
      · rename_i hlt
        rw [set_over hlt] at e
        rw [if_pos (by omega)]; exact e
      · cases e
    · rename_i cs hb
      split at e
      · rename_i hlt
        rw [set_over hlt] at e
        rw [if_pos (by omega)]; exact e
      · cases e
    · cases e
  · cases e

theorem new_some {cs : List Value} {k : Kind} {n n' b : Nat} {h h' : H} (e : new cs k n h = some (b, n', h')) :
    b = n ∧ n' = n + 1 ∧ h.get n = none ∧ h' = h.set n ⟨cs, k⟩ ∧ cs.all one = true := by
  replace e : newF cs k n h = some (b, n', h') := e
  unfold newF at e
  split at e
  · rename_i h1
    split at e
    · rename_i hn
      simp only [Option.some.injEq, Prod.mk.injEq] at e
      obtain ⟨rfl, rfl, rfl⟩ := e
      exact ⟨rfl, rfl, hn, rfl, h1⟩
    · cases e
  · cases e

theorem kill_some {b n n' : Nat} {h h' : H} {u : Unit} (e : kill b n h = some (u, n', h')) : n' = n ∧ ∃ cs, h.get b = some ⟨cs, .grow⟩ ∧ h' = h.set b dead := by
  replace e : killF b n h = some (u, n', h') := e
  unfold killF at e
  split at e
  · rename_i cs hb
    simp only [Option.some.injEq, Prod.mk.injEq, true_and] at e
    obtain ⟨rfl, rfl⟩ := e
    exact ⟨rfl, cs, hb, rfl⟩
  · cases e

/-! ## In a world -/

section
variable {G : Nat} {ρ : Map} {h : H} {w : World}

theorem not_map_dead : ¬ dead.isMap := fun h => by cases h.2
theorem R.kill (r : R G ρ h w) {b : Nat} {B : Blk} (hb : h.get b = some B) : R G ρ (h.set b dead) w := by
  refine ⟨fun c => ?_, r.glob, fun c C L hc hl hL => ?_, fun c d C D L N hne hc hd hlc hmd hL hN => ?_, fun c C L hc hm hL => ?_, fun c d C D L N hne hc hd hm1 hm2 hL hN => ?_⟩
  rotate_left 3
  · rw [H.get_set] at hc
    split at hc
    · simp only [Option.some.injEq] at hc; subst hc; exact absurd hm not_map_dead
    · exact r.maps c C L hc hm hL
  · rw [H.get_set] at hc hd
    split at hc
    · simp only [Option.some.injEq] at hc; subst hc; exact absurd hm1 not_map_dead
    · split at hd
      · simp only [Option.some.injEq] at hd; subst hd; exact absurd hm2 not_map_dead
      · exact r.lone c d C D L N hne hc hd hm1 hm2 hL hN
  · rw [H.get_set]
    split
    · rename_i e; subst e; rw [← r.dom, hb]; rfl
    · exact r.dom c
  · rw [H.get_set] at hc
    split at hc
    · simp only [Option.some.injEq] at hc; subst hc; exact absurd rfl hl
    · exact r.blk c C L hc hl hL
  · rw [H.get_set] at hc hd
    split at hc
    · simp only [Option.some.injEq] at hc; subst hc; exact absurd rfl hlc
    · split at hd
      · simp only [Option.some.injEq] at hd; subst hd; exact absurd rfl hmd.live
      · exact r.apart c d C D L N hne hc hd hlc hmd hL hN

theorem Ext.kill (ρ : Map) (h : H) (w : World) (b : Nat) : Ext ρ h w ρ (h.set b dead) w := by
  refine ⟨Le.refl _, rfl, rfl, rfl, Nat.le_refl _, fun _ _ _ => rfl, fun k _ ho => ?_⟩
  obtain ⟨c, C, L, hc, hm, hL, hk⟩ := ho
  rw [H.get_set] at hc
  split at hc
  · simp only [Option.some.injEq] at hc; subst hc
    rcases hm with hm | hm
    · exact absurd rfl hm.live
    · exact absurd hm not_map_dead
  · exact ⟨c, C, L, hc, hm, hL, hk⟩

/-- One block of the world is turned, at places where no live block lies. -/
structure Poked (w w' : World) (K x y : Nat) : Prop where
  os : w'.os = w.os
  tape : w'.tape = w.tape
  output : w'.output = w.output
  size : w'.heap.size = w.heap.size
  other : ∀ k, k ≠ K → w'.heap[k]? = w.heap[k]?
  here : ∀ arr e fz, w.heap[K]? = some (.cells arr e fz) → ∃ arr', w'.heap[K]? = some (.cells arr' e fz) ∧ arr'.size = arr.size ∧ ∀ i, (i < x ∨ y ≤ i) → arr'[i]? = arr[i]?

theorem R.poke (r : R G ρ h w) {w' : World} {K x y : Nat} (p : Poked w w' K x y) (hcell : ∃ arr e fz, w.heap[K]? = some (.cells arr e fz))
    (hfree : ∀ b B L, h.get b = some B → B.live → ρ b = some L → L.blk = K → L.lim ≤ x ∨ y ≤ L.off) : R G ρ h w' := by
  refine ⟨r.dom, r.glob, fun b B L hb hl hL => ?_, r.apart, fun b B L hb hm hL => ?_, r.lone⟩
  rotate_left
  · obtain ⟨sz, E, es, clock, e1, e2, e3⟩ := (r.maps b B L hb hm hL).obj
    obtain ⟨arr, e, fz, hK⟩ := hcell
    have hne : L.blk ≠ K := fun q => by rw [q, hK] at e2; cases e2
    exact ⟨sz, E, es, clock, e1, by rw [p.other _ hne]; exact e2, e3⟩
  obtain ⟨⟨arr, elem, fz, ho, hf, hlim, hc⟩, hfits, hex⟩ := r.blk b B L hb hl hL
  refine ⟨?_, hfits, hex⟩
  by_cases hk : L.blk = K
  · have hfr := hfree b B L hb hl hL hk
    obtain ⟨arr', h1, h2, h3⟩ := p.here arr elem fz (hk ▸ ho)
    refine ⟨arr', elem, fz, hk ▸ h1, hf, by omega, fun i v hv => ?_⟩
    have hi : i < B.cells.length := (List.getElem?_eq_some_iff.1 hv).1
    rw [h3 _ (by omega)]
    exact hc i v hv
  · exact ⟨arr, elem, fz, by rw [p.other _ hk]; exact ho, hf, hlim, hc⟩

theorem setCells_heap (b : Nat) : ∀ (vs : List Value) (o : Nat) (w : World), 
    (w.setCells b o vs).os = w.os ∧ (w.setCells b o vs).tape = w.tape ∧ (w.setCells b o vs).output = w.output ∧ (w.setCells b o vs).heap.size = w.heap.size ∧
    (∀ k, k ≠ b → (w.setCells b o vs).heap[k]? = w.heap[k]?) ∧
    (∀ arr e fz, w.heap[b]? = some (.cells arr e fz) → ∃ arr', (w.setCells b o vs).heap[b]? = some (.cells arr' e fz) ∧ arr'.size = arr.size ∧
      ∀ i, arr'[i]? = if o ≤ i ∧ i < o + vs.length ∧ i < arr.size then vs[i - o]? else arr[i]?)
  | [], o, w => ⟨rfl, rfl, rfl, rfl, fun _ _ => rfl, fun arr e fz ha => ⟨arr, ha, rfl, fun i => by rw [if_neg (by simp; omega)]⟩⟩
  | v :: vs, o, w => by
    obtain ⟨h1, h2, h3, h4, h5, h6⟩ := setCells_heap b vs (o + 1) (w.setCell ⟨b, o, none⟩ v)
    refine ⟨h1, h2, h3, by simpa [World.setCells] using h4, fun k hk => ?_, fun arr e fz ha => ?_⟩
    · rw [World.setCells, h5 k hk]
      simp only [World.setCell, Array.getElem?_modify]
      rw [if_neg (fun e => hk e.symm)]
    · have hs : (w.setCell ⟨b, o, none⟩ v).heap[b]? = some (.cells (arr.setIfInBounds o v) e fz) := by
        simp [World.setCell, ha, Array.getElem?_modify]
      obtain ⟨arr', g1, g2, g3⟩ := h6 _ _ _ hs
      refine ⟨arr', g1, g2.trans (by simp), fun i => ?_⟩
      rw [g3 i]
      simp only [Array.size_setIfInBounds, List.length_cons, Array.getElem?_setIfInBounds]
      by_cases ho : o = i
      · subst ho
        rw [if_neg (show ¬ (o + 1 ≤ o ∧ o < o + 1 + vs.length ∧ o < arr.size) by omega), if_pos rfl]
        by_cases hlt : o < arr.size
        · rw [if_pos hlt, if_pos ⟨Nat.le_refl _, by omega, hlt⟩]; simp
        · rw [if_neg hlt, if_neg (fun hh => hlt hh.2.2)]; simp [hlt]
      · by_cases hc : o + 1 ≤ i ∧ i < o + 1 + vs.length ∧ i < arr.size
        · rw [if_pos hc, if_pos (by omega)]
          rw [show i - o = (i - (o + 1)) + 1 by omega]; simp
        · rw [if_neg hc, if_neg ho, if_neg (by omega)]

theorem poked_setCells (w : World) (b o : Nat) (vs : List Value) : Poked w (w.setCells b o vs) b o (o + vs.length) := by
  obtain ⟨h1, h2, h3, h4, h5, h6⟩ := setCells_heap b vs o w
  refine ⟨h1, h2, h3, h4, h5, fun arr e fz ha => ?_⟩
  obtain ⟨arr', g1, g2, g3⟩ := h6 arr e fz ha
  exact ⟨arr', g1, g2, fun i hi => by rw [g3, if_neg (by omega)]⟩

/-- Lists of values, alike one by one. -/
def VL (ρ : Map) (vs vs' : List Value) : Prop := vs.length = vs'.length ∧ ∀ (i : Nat) v v', vs[i]? = some v → vs'[i]? = some v' → VR ρ v v'

theorem VL.nil (ρ : Map) : VL ρ [] [] := ⟨rfl, by simp⟩
theorem VL.cons {ρ : Map} {v v' : Value} {vs vs' : List Value} (h : VR ρ v v') (hs : VL ρ vs vs') : VL ρ (v :: vs) (v' :: vs') := by
  refine ⟨by simp [hs.1], fun i u u' hu hu' => ?_⟩
  cases i with
  | zero => simp at hu hu'; subst hu hu'; exact h
  | succ i => exact hs.2 i u u' (by simpa using hu) (by simpa using hu')
theorem VL.mono {ρ ρ' : Map} (h : Le ρ ρ') {vs vs' : List Value} (hs : VL ρ vs vs') : VL ρ' vs vs' := ⟨hs.1, fun i v v' a b => (hs.2 i v v' a b).mono h⟩
theorem VL.get {ρ : Map} {vs vs' : List Value} (h : VL ρ vs vs') {i : Nat} {v : Value} (hv : vs[i]? = some v) : ∃ v', vs'[i]? = some v' ∧ VR ρ v v' := by
  have hi : i < vs'.length := h.1 ▸ (List.getElem?_eq_some_iff.1 hv).1
  exact ⟨vs'[i], List.getElem?_eq_getElem hi, h.2 i v _ hv (List.getElem?_eq_getElem hi)⟩
theorem VL.one {ρ : Map} {vs vs' : List Value} (h : VL ρ vs vs') (h1 : vs.all one = true) : ∀ v ∈ vs', v.oneCell' = true := by
  intro v' hm
  obtain ⟨i, hi, rfl⟩ := List.mem_iff_getElem.1 hm
  have hi' : i < vs.length := h.1 ▸ hi
  have := h.2 i vs[i] vs'[i] (List.getElem?_eq_getElem hi') (List.getElem?_eq_getElem hi)
  rw [← one_oneCell', this.one]
  exact List.all_eq_true.1 h1 _ (List.getElem_mem hi')
theorem VL.append {ρ : Map} {a a' b b' : List Value} (h : VL ρ a a') (k : VL ρ b b') : VL ρ (a ++ b) (a' ++ b') := by
  refine ⟨by simp [h.1, k.1], fun i v v' hv hv' => ?_⟩
  by_cases hi : i < a.length
  · rw [List.getElem?_append_left hi] at hv
    rw [List.getElem?_append_left (h.1 ▸ hi)] at hv'
    exact h.2 i v v' hv hv'
  · rw [List.getElem?_append_right (by omega)] at hv
    rw [List.getElem?_append_right (by have := h.1; omega), ← h.1] at hv'
    exact k.2 _ v v' hv hv'

theorem R.rdN (r : R G ρ h w) {b o k n n' : Nat} {h' : H} {vs : List Value} (e : rdN b o k n h = some (vs, n', h')) :
    n' = n ∧ h' = h ∧ vs.length = k ∧ ∃ L, ρ b = some L ∧ ∃ vs', VL ρ vs vs' ∧ ∀ (j : Nat) v', vs'[j]? = some v' → w.cell? ⟨L.blk, L.off + o + j, none⟩ = some v' := by
  obtain ⟨rfl, rfl, hk, B, hb, hl, hc⟩ := rdN_some e
  obtain ⟨L, hL⟩ := r.loc hb
  refine ⟨rfl, rfl, hk, L, hL, (List.range k).map fun j => (w.cell? ⟨L.blk, L.off + o + j, none⟩).getD undef, ⟨by simp [hk], fun i v v' hv hv' => ?_⟩, fun j v' hv' => ?_⟩
  · have hi : i < k := hk ▸ (List.getElem?_eq_some_iff.1 hv).1
    have hb' := (hc i hi).1
    rw [hv] at hb'
    obtain ⟨u, h1, h2⟩ := r.cell hb hl hL hb'.symm
    rw [← Nat.add_assoc] at h1
    simp [hi, h1] at hv'
    exact hv' ▸ h2
  · have hj : j < k := by have := (List.getElem?_eq_some_iff.1 hv').1; simpa using this
    obtain ⟨hb', hlt⟩ := hc j hj
    obtain ⟨u, h1, h2⟩ := r.cell hb hl hL (List.getElem?_eq_getElem hlt)
    rw [← Nat.add_assoc] at h1
    simp [hj, h1] at hv'
    rw [h1, hv']

theorem R.rd (r : R G ρ h w) {b o n n' : Nat} {h' : H} {v : Value} (e : rd b o n h = some (v, n', h')) :
    n' = n ∧ h' = h ∧ ∃ L, ρ b = some L ∧ ∃ v', VR ρ v v' ∧ w.cell? ⟨L.blk, L.off + o, none⟩ = some v' := by
  obtain ⟨rfl, rfl, B, hb, hl, hc⟩ := rd_some e
  obtain ⟨L, hL⟩ := r.loc hb
  obtain ⟨u, h1, h2⟩ := r.cell hb hl hL hc
  exact ⟨rfl, rfl, L, hL, u, h2, h1⟩

/-- A store of some cells. -/
theorem R.wrN (r : R G ρ h w) {b o n n' : Nat} {h' : H} {vs : List Value} {u : Unit} (e : wrN b o vs n h = some (u, n', h')) {vs' : List Value} (hv : VL ρ vs vs') :
    n' = n ∧ ∃ L, ρ b = some L ∧ R G ρ h' (w.setCells L.blk (L.off + o) vs') ∧ Ext ρ h w ρ h' (w.setCells L.blk (L.off + o) vs') ∧
      (∀ j, j < vs'.length → (w.cell? ⟨L.blk, L.off + o + j, none⟩).isSome = true) ∧ (∀ j, w.frozen? ⟨L.blk, j, none⟩ = false) ∧ (∀ v ∈ vs', v.oneCell' = true) := by
  obtain ⟨rfl, B, hb, hm, hle, rfl, h1⟩ := wrN_some e
  obtain ⟨L, hL⟩ := r.loc hb
  obtain ⟨⟨arr, elem, fz, ho, hf, hlim, hc⟩, hfits, hex⟩ := r.blk b B L hb hm.live hL
  obtain ⟨g1, g2, g3, g4, g5, g6⟩ := setCells_heap L.blk vs' (L.off + o) w
  obtain ⟨arr', k1, k2, k3⟩ := g6 arr elem fz ho
  refine ⟨rfl, L, hL, ⟨fun c => ?_, r.glob, fun c C N hc' hl' hN => ?_, fun c d C D N O hne hc' hd' hl' hm' hN hO => ?_, fun c C N hc' hm' hN => ?_, fun c d C D N O hne hc' hd' hm1 hm2 hN hO => ?_⟩, ⟨Le.refl _, g1, g2, g3, by omega, fun k hk hn => ?_, fun k hk hn => ?_⟩, fun j hj => ?_, fun j => r.unfrozen hb hm hL j, hv.one h1⟩
  rotate_left 3
  · rw [H.get_set] at hc'
    split at hc'
    · simp only [Option.some.injEq] at hc'; subst hc'
      rcases hm with q | q <;> simp [Blk.isMap, q] at hm'
    · obtain ⟨sz, E, es, clock, e1, e2, e3⟩ := (r.maps c C N hc' hm' hN).obj
      have hne : N.blk ≠ L.blk := fun q => by rw [q, ho] at e2; cases e2
      exact ⟨sz, E, es, clock, e1, by rw [g5 _ hne]; exact e2, e3⟩
  · rw [H.get_set] at hc' hd'
    split at hc'
    · simp only [Option.some.injEq] at hc'; subst hc'
      rcases hm with q | q <;> simp [Blk.isMap, q] at hm1
    · split at hd'
      · simp only [Option.some.injEq] at hd'; subst hd'
        rcases hm with q | q <;> simp [Blk.isMap, q] at hm2
      · exact r.lone c d C D N O hne hc' hd' hm1 hm2 hN hO
  rotate_left 3
  · rw [H.get_set]
    split
    · rename_i e; subst e; rw [← r.dom, hb]; rfl
    · exact r.dom c
  · rw [H.get_set] at hc'
    split at hc'
    · rename_i e
      subst e
      simp only [Option.some.injEq] at hc'
      subst hc'
      rw [hL] at hN
      simp only [Option.some.injEq] at hN
      subst hN
      refine ⟨⟨arr', elem, fz, k1, hf, by omega, fun i v hiv => ?_⟩, by simpa [over_length hle] using hfits, by simpa [over_length hle] using hex⟩
      rw [over_get hle] at hiv
      rw [k3]
      split at hiv
      · rename_i hin
        have hlt : L.off + i < arr.size := by omega
        rw [if_pos (by have := hv.1; omega)]
        obtain ⟨v', hv1, hv2⟩ := hv.get hiv
        exact ⟨v', by rw [show L.off + i - (L.off + o) = i - o by omega]; exact hv1, hv2⟩
      · rename_i hin
        rw [if_neg (by have := hv.1; omega)]
        exact hc i v hiv
    · rename_i hne
      obtain ⟨⟨arr2, elem2, fz2, ho2, hf2, hlim2, hc2⟩, hfits2, hex2⟩ := r.blk c C N hc' hl' hN
      refine ⟨?_, hfits2, hex2⟩
      by_cases hk : N.blk = L.blk
      · have hap := r.apart c b C B N L hne hc' hb hl' hm hN hL
        rw [hk] at ho2
        rw [ho] at ho2
        simp only [Option.some.injEq, Obj.cells.injEq] at ho2
        obtain ⟨rfl, rfl, rfl⟩ := ho2
        refine ⟨arr', elem, fz, hk ▸ k1, hf2, by omega, fun i v hiv => ?_⟩
        have hi : i < C.cells.length := (List.getElem?_eq_some_iff.1 hiv).1
        rw [k3, if_neg (by have := hv.1; omega)]
        exact hc2 i v hiv
      · exact ⟨arr2, elem2, fz2, by rw [g5 _ hk]; exact ho2, hf2, hlim2, hc2⟩
  · rw [H.get_set] at hc' hd'
    have : ∀ {x X}, (if x = b then some (⟨over B.cells o vs, B.kind⟩ : Blk) else h.get x) = some X → ∃ Y, h.get x = some Y ∧ Y.kind = X.kind := by
      intro x X hx
      split at hx
      · rename_i e; subst e; simp only [Option.some.injEq] at hx; subst hx; exact ⟨B, hb, rfl⟩
      · exact ⟨X, hx, rfl⟩
    obtain ⟨Y, hY, hYk⟩ := this hc'
    obtain ⟨Z, hZ, hZk⟩ := this hd'
    exact r.apart c d Y Z N O hne hY hZ (by simpa [Blk.live, hYk] using hl') (by simpa [Blk.mine, hZk] using hm') hN hO
  · exact g5 k fun e => hn ⟨b, B, L, hb, .inl hm, hL, e.symm⟩
  · obtain ⟨c, C, N, hc', hm', hN, hk'⟩ := hn
    rw [H.get_set] at hc'
    split at hc'
    · rename_i e; subst e; exact ⟨c, B, N, hb, .inl hm, hN, hk'⟩
    · exact ⟨c, C, N, hc', hm', hN, hk'⟩
  · have : (B.cells[o + j]?).isSome = true := by
      rw [List.getElem?_eq_getElem (by have := hv.1; omega)]; rfl
    obtain ⟨v, hv'⟩ := Option.isSome_iff_exists.1 this
    obtain ⟨v', hv1, _⟩ := r.cell hb hm.live hL hv'
    rw [← Nat.add_assoc] at hv1
    simp [hv1]

/-- A map with one block more. -/
def Map.add (ρ : Map) (n : Nat) (L : Loc) : Map := fun b => if b = n then some L else ρ b
theorem Map.add_same (ρ : Map) (n : Nat) (L : Loc) : ρ.add n L n = some L := by simp [Map.add]
theorem Map.add_le {ρ : Map} {n : Nat} (L : Loc) (hn : ρ n = none) : Le ρ (ρ.add n L) := fun b N hb => by
  unfold Map.add; split
  · rename_i e; subst e; rw [hn] at hb; cases hb
  · exact hb

theorem R.fresh (r : R G ρ h w) {n : Nat} (hn : h.get n = none) : ρ n = none := by
  have := r.dom n
  rw [hn] at this
  cases hρ : ρ n with
  | none => rfl
  | some L => rw [hρ] at this; cases this

/-- A block more, over a world in which all live blocks are as they were. -/
theorem R.add (r : R G ρ h w) {n : Nat} (hn : h.get n = none) {B : Blk} {L : Loc} (hB : BlkOK (ρ.add n L) w L B) (hk : B.mine)
    (hap : ∀ b C N, h.get b = some C → C.live → ρ b = some N → N.blk ≠ L.blk ∨ N.lim ≤ L.off ∨ L.lim ≤ N.off) : R G (ρ.add n L) (h.set n B) w := by
  have hle := Map.add_le L (r.fresh hn)
  have hnm : ¬ B.isMap := fun q => by rcases hk with e | e <;> (have := q.1; rw [e] at this; cases this)
  refine ⟨fun c => ?_, fun g hg => ?_, fun c C N hc hl hN => ?_, fun c d C D N O hne hc hd hl hm hN hO => ?_, fun c C N hc hm hN => ?_, fun c d C D N O hne hc hd hm1 hm2 hN hO => ?_⟩
  rotate_left 4
  · rw [H.get_set] at hc
    unfold Map.add at hN
    split at hc
    · simp only [Option.some.injEq] at hc; subst hc; exact absurd hm hnm
    · rename_i e
      rw [if_neg e] at hN
      obtain ⟨sz, E, es, clock, e1, e2, e3, ek, ed, e4⟩ := (r.maps c C N hc hm hN).obj
      exact ⟨sz, E, es, clock, e1, e2, e3, ek, ed, fun i p x hp hx => ⟨(e4 i p x hp hx).1, (e4 i p x hp hx).2.mono hle⟩⟩
  · rw [H.get_set] at hc hd
    unfold Map.add at hN hO
    split at hc
    · simp only [Option.some.injEq] at hc; subst hc; exact absurd hm1 hnm
    · rename_i e
      rw [if_neg e] at hN
      split at hd
      · simp only [Option.some.injEq] at hd; subst hd; exact absurd hm2 hnm
      · rename_i e2
        rw [if_neg e2] at hO
        exact r.lone c d C D N O hne hc hd hm1 hm2 hN hO
  · rw [H.get_set]
    unfold Map.add
    split
    · rfl
    · exact r.dom c
  · obtain ⟨lim, hl⟩ := r.glob g hg
    exact ⟨lim, hle _ _ hl⟩
  · rw [H.get_set] at hc
    unfold Map.add at hN
    split at hc
    · rename_i e; subst e; simp only [if_true, Option.some.injEq] at hc hN; subst hc hN; exact hB
    · rename_i e
      rw [if_neg e] at hN
      obtain ⟨⟨arr, elem, fz, h1, h2, h3, h4⟩, h5, h6⟩ := r.blk c C N hc hl hN
      exact ⟨⟨arr, elem, fz, h1, h2, h3, fun i v hv => let ⟨v', k1, k2⟩ := h4 i v hv; ⟨v', k1, k2.mono hle⟩⟩, h5, h6⟩
  · rw [H.get_set] at hc hd
    unfold Map.add at hN hO
    by_cases hcn : c = n
    · subst hcn
      simp only [if_true, Option.some.injEq] at hc hN
      subst hc hN
      rw [if_neg (Ne.symm hne)] at hd hO
      have := hap d D O hd hm.live hO
      rcases this with h | h | h
      · exact .inl (Ne.symm h)
      · exact .inr (.inr h)
      · exact .inr (.inl h)
    · rw [if_neg hcn] at hc hN
      by_cases hdn : d = n
      · subst hdn
        simp only [if_true, Option.some.injEq] at hd hO
        subst hd hO
        exact hap c C N hc hl hN
      · rw [if_neg hdn] at hd hO
        exact r.apart c d C D N O hne hc hd hl hm hN hO

/-- A new block of the world: all that was is as it was. -/
theorem R.alloc (r : R G ρ h w) (o : Obj) : R G ρ h (w.alloc o) := by
  refine ⟨r.dom, r.glob, fun b B L hb hl hL => ?_, r.apart, fun b B L hb hm hL => ?_, r.lone⟩
  rotate_left
  · obtain ⟨sz, E, es, clock, e1, e2, e3⟩ := (r.maps b B L hb hm hL).obj
    have hlt : L.blk < w.heap.size := (Array.getElem?_eq_some_iff.1 e2).1
    exact ⟨sz, E, es, clock, e1, by rw [Go.RowKit.Below.heap_alloc _ _ _ hlt]; exact e2, e3⟩
  obtain ⟨⟨arr, elem, fz, h1, h2, h3, h4⟩, h5, h6⟩ := r.blk b B L hb hl hL
  have hlt : L.blk < w.heap.size := (Array.getElem?_eq_some_iff.1 h1).1
  exact ⟨⟨arr, elem, fz, by rw [Go.RowKit.Below.heap_alloc _ _ _ hlt]; exact h1, h2, h3, h4⟩, h5, h6⟩

theorem R.blk_lt (r : R G ρ h w) {b : Nat} {B : Blk} {L : Loc} (hb : h.get b = some B) (hl : B.live) (hL : ρ b = some L) : L.blk < w.heap.size := by
  obtain ⟨arr, elem, fz, h1, _⟩ := (r.blk b B L hb hl hL).obj
  exact (Array.getElem?_eq_some_iff.1 h1).1

/-- A new block, just as long as it is, or with room behind it. -/
theorem R.new (r : R G ρ h w) {cs : List Value} {k : Kind} {n n' b : Nat} {h' : H} (e : new cs k n h = some (b, n', h')) (hk : k = .own ∨ k = .grow)
    {cs' rest : List Value} (hv : VL ρ cs cs') (hrest : k = .own → rest = []) (elem : TypeId) :
    b = n ∧ R G (ρ.add n ⟨w.heap.size, 0, cs'.length + rest.length⟩) h' (w.alloc (.cells (cs' ++ rest).toArray elem)) ∧
      Ext ρ h w (ρ.add n ⟨w.heap.size, 0, cs'.length + rest.length⟩) h' (w.alloc (.cells (cs' ++ rest).toArray elem)) ∧ (∀ v ∈ cs', v.oneCell' = true) := by
  obtain ⟨rfl, rfl, hn, rfl, h1⟩ := new_some e
  have hle := Map.add_le ⟨w.heap.size, 0, cs'.length + rest.length⟩ (r.fresh hn)
  refine ⟨rfl, R.add (r.alloc _) hn ⟨⟨(cs' ++ rest).toArray, elem, (0, 0), heap_alloc_new w _, fun _ => rfl, by simp, fun i v hiv => ?_⟩, ?_, fun ho => ?_⟩ hk fun b C N hb hl hN => ?_, ⟨hle, rfl, rfl, rfl, by simp, fun k hk _ => Go.RowKit.Below.heap_alloc _ _ _ hk, fun k hk ho => ?_⟩, hv.one h1⟩
  · obtain ⟨v', g1, g2⟩ := hv.get hiv
    refine ⟨v', ?_, g2.mono hle⟩
    have : i < cs'.length := (List.getElem?_eq_some_iff.1 g1).1
    simp [List.getElem?_append_left this, g1]
  · have := hv.1; simp; omega
  · have := hv.1
    simp [hrest ho, hv.1]
  · left
    have := r.blk_lt hb hl hN
    simp; omega
  · obtain ⟨c, C, N, hc, hm, hN, hk'⟩ := ho
    rw [H.get_set] at hc
    unfold Map.add at hN
    split at hc
    · rename_i e
      rw [if_pos e] at hN
      simp only [Option.some.injEq] at hN
      subst hN
      simp at hk'
      omega
    · rename_i e
      rw [if_neg e] at hN
      exact ⟨c, C, N, hc, hm, hN, hk'⟩
end
end Go.Fw
