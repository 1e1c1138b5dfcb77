/-
  Lists that are eaten from one end and grow at the other; a search by waiting lists, in plain numbers.
-/
import Derived.Test.YtddafkflndhnfaaDoorFwZ
import Derived.Test.YtddafkflndhnfaaDoorFwDfs
set_option maxRecDepth 20000
namespace Go.Fw

/-- A list that grows by appends and is cut at either end. -/
def Gq (h : H) (v : Value) (b : Nat) (cs : List Value) : Prop :=
  (cs = [] ∧ v = nsl) ∨ ∃ o xs kd c, v = sl b o cs.length c ∧ h.get b = some ⟨xs, kd⟩ ∧ kd ≠ .dead ∧ o + cs.length ≤ xs.length ∧ (xs.drop o).take cs.length = cs ∧ (kd = .grow ∧ c = U + 1 ∨ kd = .own ∧ c = cs.length ∧ c < U)

theorem Gq.keep {h h' : H} {v : Value} {b : Nat} {cs : List Value} (g : Gq h v b cs) (hk : (h.get b).isSome = true → h'.get b = h.get b) : Gq h' v b cs := by
  rcases g with g | ⟨o, xs, kd, c, h1, h2, h3⟩
  · exact .inl g
  · exact .inr ⟨o, xs, kd, c, h1, by rw [hk (by rw [h2]; rfl)]; exact h2, h3⟩
theorem Gq.rd {h : H} {v : Value} {b : Nat} {cs : List Value} (g : Gq h v b cs) : Rd h v cs := by
  rcases g with g | ⟨o, xs, kd, c, h1, h2, h3, h4, h5, _⟩
  · exact .inl g
  · refine .inr ⟨b, o, c, kd, h1, fun _ => ⟨xs, h2, h3, fun i hi => ?_⟩⟩
    have : cs[i]? = ((xs.drop o).take cs.length)[i]? := by rw [h5]
    rw [this, List.getElem?_take, if_pos hi, List.getElem?_drop]
theorem Gl.q {h : H} {v : Value} {b : Nat} {cs : List Value} (g : Gl h v b cs) : Gq h v b cs := by
  rcases g with g | ⟨_, h1, h2⟩
  · exact .inl g
  · exact .inr ⟨0, cs, .grow, U + 1, h1, h2, by decide, by omega, by simp, .inl ⟨rfl, rfl⟩⟩
theorem Gq.own {h : H} {b : Nat} {cs : List Value} (hb : h.get b = some ⟨cs, .own⟩) (hl : cs.length < U) : Gq h (sl b 0 cs.length cs.length) b cs := .inr ⟨0, cs, .own, _, rfl, hb, by decide, by omega, by simp, .inr ⟨rfl, rfl, hl⟩⟩

/-- The first one off. -/
theorem Gq.tail {β : Type} {h : H} {v : Value} {b : Nat} {x : Value} {cs : List Value} (g : Gq h v b (x :: cs)) : ∃ v', (∀ k : Value → M β, bnd (opSlice 1 v (some (.int .i64 1)) none none) k = k v') ∧ Gq h v' b cs := by
  rcases g with ⟨g0, _⟩ | ⟨o, xs, kd, c, rfl, h2, h3, h4, h5, h6⟩
  · cases g0
  · rw [List.length_cons] at h4 h5 h6
    have hcs : (xs.drop (o + 1)).take cs.length = cs := by
      have e : xs.drop o = xs[o]'(by omega) :: xs.drop (o + 1) := List.drop_eq_getElem_cons (by omega)
      rw [e, List.take_succ_cons, List.cons.injEq] at h5
      exact h5.2
    have es : opSlice 1 (sl b o (cs.length + 1) c) (some (.int .i64 1)) none none = ret (sl b (o + 1) cs.length (if c = U + 1 then U + 1 else c - 1)) := by
      show (if (0 : Int) ≤ 1 ∧ (1 : Int) ≤ ((cs.length + 1 : Nat) : Int) then (if ((cs.length + 1 : Nat) : Int) ≤ ((cs.length + 1 : Nat) : Int) then (if c = U + 1 then ret (sl b (o + (1 : Int).toNat * 1) (((cs.length + 1 : Nat) : Int) - 1).toNat c) else if c < U then ret (sl b (o + (1 : Int).toNat * 1) (((cs.length + 1 : Nat) : Int) - 1).toNat (c - (1 : Int).toNat)) else fail) else fail) else fail) = _
      rw [if_pos (by omega), if_pos (by omega), show (((cs.length + 1 : Nat) : Int) - 1).toNat = cs.length by omega]
      rcases h6 with ⟨_, rfl⟩ | ⟨_, rfl, h7⟩
      · rw [if_pos rfl, if_pos rfl]; rfl
      · rw [if_neg (by unfold U at h7 ⊢; omega), if_pos h7, if_neg (by unfold U at h7 ⊢; omega)]; rfl
    refine ⟨_, fun k => by rw [List.length_cons, es, ret_bnd], .inr ⟨o + 1, xs, kd, _, rfl, h2, h3, by omega, hcs, ?_⟩⟩
    rcases h6 with ⟨h6, rfl⟩ | ⟨h6, rfl, h7⟩
    · exact .inl ⟨h6, if_pos rfl⟩
    · refine .inr ⟨h6, ?_, ?_⟩
      · rw [if_neg (by unfold U at h7 ⊢; omega)]; omega
      · rw [if_neg (by unfold U at h7 ⊢; omega)]; omega

/-- One more at the end. -/
theorem Gq.push {n b : Nat} {h : H} {v y x : Value} {cs : List Value} (g : Gq h v b cs) (f : Fr n h) (hx : one x = true) (hall : cs.all one = true) (hl : cs.length < 100000000) :
    ∃ h' v', (∀ k : Value → M Value, (bnd (opBuildSlice 1 (rep 1 [y]) [(0, 1, false, x)]) fun t => bnd (opAppend 1 8 v t) k).run n h = (k v').run (n + 2) h') ∧ Gq h' v' (n + 1) (cs ++ [x]) ∧ Fr (n + 2) h' ∧ ∀ c, c < n → (v ≠ nsl → c ≠ b) → h'.get c = h.get c := by
  have f1 : Fr (n + 1) (h.set n ⟨[x], .own⟩) := f.new _
  have rdm : ∀ (K : List Value → M Value), (bnd (cellsOf 1 (sl n 0 1 1)) K).run (n + 1) (h.set n ⟨[x], .own⟩) = (K [x]).run (n + 1) (h.set n ⟨[x], .own⟩) := fun K => by
    rw [cellsOf_gl (by decide), run_rdN, H.get_set_same, ldN_some (by decide) (by simp)]; rfl
  rcases g with ⟨rfl, rfl⟩ | ⟨o, xs, kd, c, rfl, h2, h3, h4, h5, h6⟩
  · refine ⟨(h.set n ⟨[x], .own⟩).set (n + 1) ⟨[] ++ [x], .grow⟩, sl (n + 1) 0 1 (U + 1), fun k => ?_, .inr ⟨0, [x], .grow, U + 1, rfl, H.get_set_same _ _ _, by decide, by simp, by simp, .inl ⟨rfl, rfl⟩⟩, f1.new _, fun c hc _ => by rw [H.get_set_ne _ _ (by omega), H.get_set_ne _ _ (by omega)]⟩
    rw [run_single f hx]
    unfold opAppend
    simp only [if_neg (show ¬ (1 : Nat) = 0 by decide)]
    rw [if_pos (by omega), bnd_assoc, rdm, if_neg (by unfold U; omega), if_pos (by omega), bnd_assoc]
    have e1 : cellsOf 1 (.slice none 0 0) = ret [] := rfl
    rw [e1, ret_bnd, bnd_assoc, run_new f1 (by rw [List.nil_append, List.all_cons, hx]; rfl)]
    rfl
  · have hbn := f.lt h2
    have hb1 : (h.set n ⟨[x], .own⟩).get b = some ⟨xs, kd⟩ := by rw [H.get_set_ne _ _ (by omega)]; exact h2
    have olds : ∀ (K : List Value → M Value), (bnd (cellsOf 1 (sl b o cs.length c)) K).run (n + 1) (h.set n ⟨[x], .own⟩) = (K cs).run (n + 1) (h.set n ⟨[x], .own⟩) := fun K => by
      by_cases h0 : cs.length = 0
      · have : cs = [] := List.eq_nil_of_length_eq_zero h0
        subst this; rfl
      · have e : cellsOf 1 (sl b o cs.length c) = rdN b o (cs.length * 1) := by
          show (if cs.length = 0 then ret [] else rdN b o (cs.length * 1)) = _
          rw [if_neg h0]
        rw [e, run_rdN, hb1, ldN_some h3 (by omega), Nat.mul_one, h5]
    have hall2 : (cs ++ [x]).all one = true := by rw [List.all_append, hall, List.all_cons, hx]; rfl
    rcases h6 with ⟨rfl, rfl⟩ | ⟨rfl, rfl, h7⟩
    · have f2 : Fr (n + 1) ((h.set n ⟨[x], .own⟩).set b dead) := f1.set _ (by omega)
      refine ⟨((h.set n ⟨[x], .own⟩).set b dead).set (n + 1) ⟨cs ++ [x], .grow⟩, sl (n + 1) 0 (cs.length + 1) (U + 1), fun k => ?_, .inr ⟨0, cs ++ [x], .grow, U + 1, by simp, H.get_set_same _ _ _, by decide, by simp, by rw [List.drop_zero, List.take_length], .inl ⟨rfl, rfl⟩⟩, f2.new _, fun c hc hcb => by
        rw [H.get_set_ne _ _ (by omega), H.get_set_ne _ _ (hcb (by intro e; cases e)), H.get_set_ne _ _ (by omega)]⟩
      rw [run_single f hx]
      unfold opAppend
      simp only [if_neg (show ¬ (1 : Nat) = 0 by decide), if_true]
      rw [if_pos (by omega), bnd_assoc, rdm, bnd_assoc, olds, bnd_assoc]
      have hkill : (kill b).run (n + 1) (h.set n ⟨[x], .own⟩) = some ((), n + 1, (h.set n ⟨[x], .own⟩).set b dead) := by
        show killF b (n + 1) _ = _
        unfold killF
        rw [hb1]
      rw [run_bnd hkill, bnd_assoc, run_new f2 hall2]
      rfl
    · refine ⟨(h.set n ⟨[x], .own⟩).set (n + 1) ⟨cs ++ [x], .grow⟩, sl (n + 1) 0 (cs.length + 1) (U + 1), fun k => ?_, .inr ⟨0, cs ++ [x], .grow, U + 1, by simp, H.get_set_same _ _ _, by decide, by simp, by rw [List.drop_zero, List.take_length], .inl ⟨rfl, rfl⟩⟩, f1.new _, fun c hc hcb => by
        rw [H.get_set_ne _ _ (by omega), H.get_set_ne _ _ (by omega)]⟩
      rw [run_single f hx]
      unfold opAppend
      simp only [if_neg (show ¬ (1 : Nat) = 0 by decide)]
      rw [if_pos (by omega), bnd_assoc, rdm, if_neg (by unfold U at h7 ⊢; omega), if_pos (by omega), bnd_assoc, olds, bnd_assoc, run_new f1 hall2]
      rfl

/-! ## The search -/

/-- Who is reached from some, without going through w. -/
inductive RchS (adj : Nat → List Nat) (st : Nat → Prop) (w : Int) : Nat → Prop
  | start {a : Nat} : st a → (a : Int) ≠ w → RchS adj st w a
  | step {b c : Nat} : RchS adj st w b → c ∈ adj b → (c : Int) ≠ w → RchS adj st w c

structure Bf (adj : Nat → List Nat) (N : Nat) (st : Nat → Prop) (w : Int) (seen : Nat → Bool) (L : List Nat) (ex : Nat → Prop) : Prop where
  snd : ∀ m, seen m = true → RchS adj st w m ∧ m < N
  q : ∀ m, m ∈ L → seen m = true
  cl : ∀ m, seen m = true → m ∈ L ∨ ex m ∨ ∀ b, b ∈ adj m → (b : Int) ≠ w → seen b = true

theorem Bf.mark {adj : Nat → List Nat} {N : Nat} {st : Nat → Prop} {w : Int} {seen : Nat → Bool} {L : List Nat} {ex : Nat → Prop} (x : Bf adj N st w seen L ex) {b : Nat} (h1 : RchS adj st w b) (h2 : b < N) : Bf adj N st w (upd seen b true) (L ++ [b]) ex := by
  have hs : ∀ m, seen m = true → upd seen b true m = true := fun m h => by
    unfold upd; split
    · rfl
    · exact h
  refine ⟨fun m hm => ?_, fun m hm => ?_, fun m hm => ?_⟩
  · unfold upd at hm
    split at hm
    · rename_i e; subst e; exact ⟨h1, h2⟩
    · exact x.snd m hm
  · rw [List.mem_append, List.mem_singleton] at hm
    rcases hm with hm | rfl
    · exact hs m (x.q m hm)
    · exact upd_same
  · by_cases e : m = b
    · subst e; exact .inl (by simp)
    · rw [upd_ne e] at hm
      rcases x.cl m hm with h | h | h
      · exact .inl (List.mem_append_left _ h)
      · exact .inr (.inl h)
      · exact .inr (.inr fun c hc hw => hs c (h c hc hw))
theorem Bf.cnt {N b : Nat} {seen : Nat → Bool} (hb : b < N) (hs : seen b = false) : cnt N (upd seen b true) + 1 = cnt N seen := by
  have e : upd seen b true = putM seen b := by
    funext m; unfold upd putM
    by_cases h : m = b
    · rw [if_pos h, decide_eq_true h, Bool.or_true]
    · rw [if_neg h, decide_eq_false h, Bool.or_false]
  have := cnt_put hs N
  rw [if_pos hb] at this
  rw [e]; exact this
theorem Bf.done {adj : Nat → List Nat} {N : Nat} {st : Nat → Prop} {w : Int} {seen : Nat → Bool} (x : Bf adj N st w seen [] (fun _ => False)) (hst : ∀ m, st m → (m : Int) ≠ w → seen m = true) (m : Nat) : seen m = true ↔ RchS adj st w m := by
  constructor
  · exact fun h => (x.snd m h).1
  · intro r
    induction r with
    | start h1 h2 => exact hst _ h1 h2
    | step _ h2 h3 ih =>
      rcases x.cl _ ih with h | h | h
      · cases h
      · exact h.elim
      · exact h _ h2 h3

end Go.Fw
