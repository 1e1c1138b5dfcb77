/-
  Tables, lists of lists that grow, graphs that are read.
-/
import Derived.Test.YtddafkflndhnfaaDoorFwX
set_option maxRecDepth 20000
namespace Go.Fw

/-- Numbers as Go's nats. -/
abbrev nats (l : List Nat) : List Int := l.map fun m : Nat => (m : Int)

/-- One place turned. -/
def upd {α : Type} (u : Nat → α) (o : Nat) (v : α) (i : Nat) : α := if i = o then v else u i
theorem upd_same {α : Type} {u : Nat → α} {o : Nat} {v : α} : upd u o v o = v := if_pos rfl
theorem upd_ne {α : Type} {u : Nat → α} {o i : Nat} {v : α} (h : i ≠ o) : upd u o v i = u i := if_neg h

/-! ## Tables -/

def TV (h : H) (b N : Nat) (f : Nat → Value) : Prop := h.get b = some ⟨tab N f, .own⟩
/-- A table of nats. -/
def TI (h : H) (b N : Nat) (u : Nat → Int) : Prop := TV h b N fun i => i64 (u i)
/-- A table of bools. -/
def TB (h : H) (b N : Nat) (u : Nat → Bool) : Prop := TV h b N fun i => bo (u i)

section
variable {β : Type} {n b N : Nat} {h : H} {f : Nat → Value}

theorem TV.keep {h' : H} (t : TV h b N f) (hk : h'.get b = h.get b) : TV h' b N f := by unfold TV; rw [hk]; exact t
theorem TV.ev {n' : Nat} {h' : H} {P : Nat → Prop} (t : TV h b N f) (e : Ev P n h n' h') (hb : b < n) (hp : ¬ P b) : TV h' b N f := t.keep (e.keep b hb hp)
theorem TV.lt (t : TV h b N f) (fr : Fr n h) : b < n := fr.lt t
theorem TV.get (t : TV h b N f) {i : Nat} (hi : i < N) {c : Nat} {k : Value → M β} (hc : N ≤ c) : (bnd (opIndexAddr 1 (sl b 0 N c) (i64 i)) fun p => bnd (opLoad p) k).run n h = (k (f i)).run n h := by
  rw [ix1 hi, Nat.zero_add, ldT t (by decide) hi]
theorem TV.set (t : TV h b N f) (fr : Fr n h) {i : Nat} (hi : i < N) {c : Nat} {v : Value} (h1 : one v = true) :
    ∃ h', (∀ k : Value → M β, (bnd (opIndexAddr 1 (sl b 0 N c) (i64 i)) fun p => bnd (opStore p v) k).run n h = (k undef).run n h') ∧ TV h' b N (upd f i v) ∧ Ev (fun c => c = b) n h n h' := by
  have hb := t.lt fr
  refine ⟨_, fun k => by rw [ix1 hi, Nat.zero_add, stT t (.inl rfl) h1 hi]; rfl, H.get_set_same _ _ _, fr.set _ hb, Nat.le_refl _, fun c _ hc => H.get_set_ne _ _ hc⟩
theorem TV.rd (t : TV h b N f) : Rd h (sl b 0 N N) (tab N f) := .inr ⟨b, 0, N, .own, by rw [tab_len], fun _ => ⟨_, t, by decide, fun i _ => by rw [Nat.zero_add]⟩⟩

theorem TI.get {u : Nat → Int} (t : TI h b N u) {i : Nat} (hi : i < N) {k : Value → M β} : (bnd (opIndexAddr 1 (sl b 0 N N) (i64 i)) fun p => bnd (opLoad p) k).run n h = (k (i64 (u i))).run n h := TV.get t hi (Nat.le_refl _)
theorem TB.get {u : Nat → Bool} (t : TB h b N u) {i : Nat} (hi : i < N) {k : Value → M β} : (bnd (opIndexAddr 1 (sl b 0 N N) (i64 i)) fun p => bnd (opLoad p) k).run n h = (k (bo (u i))).run n h := TV.get t hi (Nat.le_refl _)
theorem TI.set {u : Nat → Int} (t : TI h b N u) (fr : Fr n h) {i : Nat} (hi : i < N) {z : Int} :
    ∃ h', (∀ k : Value → M β, (bnd (opIndexAddr 1 (sl b 0 N N) (i64 i)) fun p => bnd (opStore p (i64 z)) k).run n h = (k undef).run n h') ∧ TI h' b N (upd u i z) ∧ Ev (fun c => c = b) n h n h' := by
  obtain ⟨h', e, t', ev⟩ := TV.set (β := β) t fr hi (c := N) (v := i64 z) rfl
  refine ⟨h', e, ?_, ev⟩
  have : (fun j => i64 (upd u i z j)) = upd (fun j => i64 (u j)) i (i64 z) := by
    funext j; unfold upd; split <;> rfl
  unfold TI; rw [this]; exact t'
theorem TB.set {u : Nat → Bool} (t : TB h b N u) (fr : Fr n h) {i : Nat} (hi : i < N) {z : Bool} :
    ∃ h', (∀ k : Value → M β, (bnd (opIndexAddr 1 (sl b 0 N N) (i64 i)) fun p => bnd (opStore p (bo z)) k).run n h = (k undef).run n h') ∧ TB h' b N (upd u i z) ∧ Ev (fun c => c = b) n h n h' := by
  obtain ⟨h', e, t', ev⟩ := TV.set (β := β) t fr hi (c := N) (v := bo z) rfl
  refine ⟨h', e, ?_, ev⟩
  have : (fun j => bo (upd u i z j)) = upd (fun j => bo (u j)) i (bo z) := by
    funext j; unfold upd; split <;> rfl
  unfold TB; rw [this]; exact t'

theorem TV.make {bytes : Nat} {v : Value} (fr : Fr n h) (hN : N ≤ 100000) (hb : bytes ≤ 1000) (h1 : one v = true) :
    ∃ h', (∀ k : Value → M β, (bnd (opMake bytes [v] (i64 N) (i64 N)) k).run n h = (k (sl n 0 N N)).run (n + 1) h') ∧ TV h' n N (fun _ => v) ∧ Ev No n h (n + 1) h' := by
  have hall : (rep N [v]).all one = true := by rw [tab_rep]; exact tab_one fun _ _ => h1
  have hm : bytes * N ≤ 1000 * 100000 := Nat.mul_le_mul hb hN
  refine ⟨h.set n ⟨rep N [v], .own⟩, fun k => ?_, ?_, fr.new _, by omega, fun c hc _ => H.get_set_ne _ _ (by omega)⟩
  · rw [run_make (by rw [Int.toNat_natCast]; omega) fr (by rw [Int.toNat_natCast]; exact hall), Int.toNat_natCast]
  · unfold TV; rw [H.get_set_same, tab_rep]
theorem TI.make {bytes : Nat} (fr : Fr n h) (hN : N ≤ 100000) (hb : bytes ≤ 1000) {z : Int} :
    ∃ h', (∀ k : Value → M β, (bnd (opMake bytes [i64 z] (i64 N) (i64 N)) k).run n h = (k (sl n 0 N N)).run (n + 1) h') ∧ TI h' n N (fun _ => z) ∧ Ev No n h (n + 1) h' := TV.make fr hN hb rfl
theorem TB.make {bytes : Nat} (fr : Fr n h) (hN : N ≤ 100000) (hb : bytes ≤ 1000) {z : Bool} :
    ∃ h', (∀ k : Value → M β, (bnd (opMake bytes [bo z] (i64 N) (i64 N)) k).run n h = (k (sl n 0 N N)).run (n + 1) h') ∧ TB h' n N (fun _ => z) ∧ Ev No n h (n + 1) h' := TV.make fr hN hb rfl
end

/-! ## Lists of lists in a table -/

/-- Row by row a list that grows; O: the blocks that are its own. -/
def OL (h : H) (ob N : Nat) (O : Nat → Prop) (L : Nat → List Int) : Prop :=
  O ob ∧ (∀ c, O c → (h.get c).isSome = true) ∧ ∃ (iv : Nat → Value) (ib : Nat → Nat), TV h ob N iv ∧ (∀ j, j < N → GlI h (iv j) (ib j) (L j) ∧ (L j ≠ [] → O (ib j) ∧ ib j ≠ ob)) ∧ ∀ i j, i < N → j < N → i ≠ j → L i ≠ [] → L j ≠ [] → ib i ≠ ib j

theorem OL.keep {h h' : H} {ob N : Nat} {O : Nat → Prop} {L : Nat → List Int} (x : OL h ob N O L) (hk : ∀ c, O c → h'.get c = h.get c) : OL h' ob N O L := by
  obtain ⟨ho, hs, iv, ib, t, hi, hd⟩ := x
  exact ⟨ho, fun c hc => by rw [hk c hc]; exact hs c hc, iv, ib, t.keep (hk _ ho), fun j hj => ⟨(hi j hj).1.keep fun h0 => hk _ ((hi j hj).2 (by rintro e; exact h0 (by rw [e]; rfl))).1, (hi j hj).2⟩, hd⟩

theorem OL.lt {h : H} {n ob N : Nat} {O : Nat → Prop} {L : Nat → List Int} (x : OL h ob N O L) (f : Fr n h) {c : Nat} (hc : O c) : c < n := by
  have := x.2.1 c hc
  rcases Nat.lt_or_ge c n with h1 | h1
  · exact h1
  · rw [f c h1] at this; cases this

theorem OL.make {β : Type} {n N : Nat} {h : H} (fr : Fr n h) (hN : N ≤ 100000) :
    ∃ h', (∀ k : Value → M β, (bnd (opMake 24 [nsl] (i64 N) (i64 N)) k).run n h = (k (sl n 0 N N)).run (n + 1) h') ∧ OL h' n N (fun c => c = n) (fun _ => []) ∧ Ev No n h (n + 1) h' := by
  obtain ⟨h', e, t, ev⟩ := TV.make (β := β) (bytes := 24) (v := nsl) fr hN (by decide) rfl
  exact ⟨h', e, ⟨rfl, fun c hc => by rw [hc, show h'.get n = _ from t]; rfl, fun _ => nsl, fun _ => 0, t, fun j _ => ⟨.inl ⟨rfl, rfl⟩, fun h => absurd rfl h⟩, fun i j _ _ _ h0 => absurd rfl h0⟩, ev⟩

/-- One number more in a row. -/
theorem OL.app {n ob N : Nat} {h : H} {O : Nat → Prop} {L : Nat → List Int} {J : Nat} {y z : Int} (x : OL h ob N O L) (fr : Fr n h) (hJ : J < N) (hl : (L J).length < 1099511627776) :
    ∃ h2 h' a, (∀ K : Value → M Value, (bnd (opIndexAddr 1 (sl ob 0 N N) (i64 J)) fun p => bnd (opLoad p) fun v => bnd (opBuildSlice 1 (rep 1 [i64 y]) [(0, 1, false, i64 z)]) fun w => bnd (opAppend 1 8 v w) K).run n h = (K a).run (n + 2) h2) ∧ Ev O n h (n + 2) h2 ∧
      (∀ K : Value → M Value, (bnd (opIndexAddr 1 (sl ob 0 N N) (i64 J)) fun p => bnd (opStore p a) K).run (n + 2) h2 = (K undef).run (n + 2) h') ∧ OL h' ob N (fun c => O c ∨ c = n + 1) (fun j => if j = J then L j ++ [z] else L j) ∧ Ev O n h (n + 2) h' := by
  obtain ⟨ho, hs, iv, ib, t, hi, hd⟩ := x
  have hobn := t.lt fr
  obtain ⟨h2, a, e2, g2, f2, k2⟩ := (hi J hJ).1.pushI (β := Value) (y := y) (z := z) fr hl
  have ha : one a = true := g2.one_v
  have ev2 : Ev O n h (n + 2) h2 := ⟨f2, by omega, fun c hc hO => k2 c hc fun h0 e => hO (e ▸ ((hi J hJ).2 h0).1)⟩
  have t2 : TV h2 ob N iv := t.keep (k2 ob hobn fun h0 e => ((hi J hJ).2 h0).2 e.symm)
  obtain ⟨h3, e3, t3, ev3⟩ := TV.set (β := Value) t2 f2 hJ (c := N) ha
  refine ⟨h2, h3, a, fun K => by rw [t.get hJ (Nat.le_refl _)]; exact e2 K, ev2, e3, ⟨.inl ho, fun c hc => ?_, upd iv J a, upd ib J (n + 1), t3, fun j hj => ?_, fun i j hi' hj hij q1 q2 => ?_⟩, ev2.trans ev3 fun c _ hc => by rw [hc]; exact ho⟩
  · have hK := e2 ret
    have hK3 := e3 ret
    have l2 := M.loc _ _ _ _ _ _ hK
    have l3 := M.loc _ _ _ _ _ _ hK3
    have hs2 : (h2.get c).isSome = true := by
      rcases hc with hc | rfl
      · exact (l2.dom c).2 (.inl (hs c hc))
      · rcases g2 with ⟨g0, _⟩ | ⟨_, _, g3⟩
        · simp at g0
        · rw [g3]; rfl
    exact (l3.dom c).2 (.inl hs2)
  · dsimp only
    by_cases e : j = J
    · subst e
      rw [if_pos rfl, upd_same, upd_same]
      exact ⟨g2.keep fun _ => ev3.keep _ (by omega) (by omega), fun _ => ⟨.inr rfl, by omega⟩⟩
    · rw [if_neg e, upd_ne e, upd_ne e]
      refine ⟨(hi j hj).1.keep fun h0 => ?_, fun h0 => ⟨.inl ((hi j hj).2 h0).1, ((hi j hj).2 h0).2⟩⟩
      have h0' : L j ≠ [] := by rintro e; exact h0 (by rw [e]; rfl)
      have hlt := (hi j hj).1.lt fr h0
      rw [ev3.keep _ (by omega) ((hi j hj).2 h0').2, k2 _ hlt fun h1 e2 => hd j J hj hJ e h0' h1 e2]
  · dsimp only at q1 q2
    by_cases e1 : i = J
    · subst e1
      rw [if_neg (Ne.symm hij)] at q2
      rw [upd_same, upd_ne (Ne.symm hij)]
      have := (hi j hj).1.lt fr (by rintro e; exact q2 (by simpa using e)); omega
    · rw [if_neg e1] at q1
      rw [upd_ne e1]
      by_cases e2 : j = J
      · rw [e2, upd_same]
        have := (hi i hi').1.lt fr (by rintro e; exact q1 (by simpa using e)); omega
      · rw [if_neg e2] at q2
        rw [upd_ne e2]
        exact hd i j hi' hj hij q1 q2

/-! ## Graphs that are read -/

/-- Who comes next, row by row; all of it lies ahead of m. -/
def Gr (h : H) (m : Nat) (tv : Value) (N : Nat) (adj : Nat → List Nat) : Prop :=
  one tv = true ∧ ∃ h0, Fr m h0 ∧ (∀ c, c < m → h.get c = h0.get c) ∧ ∃ iv, Rd h0 tv (tab N iv) ∧ ∀ j, j < N → RdI h0 (iv j) (nats (adj j))

theorem Gr.ev {h h' : H} {m n n' N : Nat} {tv : Value} {adj : Nat → List Nat} {P : Nat → Prop} (g : Gr h m tv N adj) (e : Ev P n h n' h') (hm : m ≤ n) (hP : ∀ c, P c → m ≤ c) : Gr h' m tv N adj := by
  obtain ⟨h1, h0, f0, k0, q⟩ := g
  exact ⟨h1, h0, f0, fun c hc => by rw [e.keep c (by omega) fun p => by have := hP c p; omega]; exact k0 c hc, q⟩
theorem Gr.no {h h' : H} {m n n' N : Nat} {tv : Value} {adj : Nat → List Nat} (g : Gr h m tv N adj) (e : Ev No n h n' h') (hm : m ≤ n) : Gr h' m tv N adj := g.ev e hm fun _ h => h.elim
theorem Gr.congr {h : H} {m N : Nat} {tv : Value} {adj adj' : Nat → List Nat} (g : Gr h m tv N adj) (e : ∀ j, j < N → adj j = adj' j) : Gr h m tv N adj' := by
  obtain ⟨h1, h0, f0, k0, iv, q, q2⟩ := g
  exact ⟨h1, h0, f0, k0, iv, q, fun j hj => by rw [← e j hj]; exact q2 j hj⟩
theorem Gr.mono {h : H} {m n N : Nat} {tv : Value} {adj : Nat → List Nat} (g : Gr h m tv N adj) (f : Fr n h) (hm : m ≤ n) : Gr h n tv N adj := by
  obtain ⟨h1, h0, f0, k0, iv, q, q2⟩ := g
  exact ⟨h1, h, f, fun _ _ => rfl, iv, q.kept f0 k0, fun j hj => (q2 j hj).kept f0 k0⟩
theorem Gr.len {β : Type} {h : H} {m N : Nat} {tv : Value} {adj : Nat → List Nat} (g : Gr h m tv N adj) {k : Value → M β} : bnd (opLen tv) k = k (i64 N) := by
  obtain ⟨h1, h0, f0, k0, iv, q, q2⟩ := g
  rw [q.len, tab_len]
theorem Gr.row {β : Type} {n : Nat} {h : H} {m N : Nat} {tv : Value} {adj : Nat → List Nat} (g : Gr h m tv N adj) {a : Nat} (ha : a < N) :
    ∃ rv, (∀ k : Value → M β, (bnd (opIndexAddr 1 tv (i64 a)) fun p => bnd (opLoad p) k).run n h = (k rv).run n h) ∧ ∃ h0, Fr m h0 ∧ (∀ c, c < m → h.get c = h0.get c) ∧ RdI h0 rv (nats (adj a)) := by
  obtain ⟨h1, h0, f0, k0, iv, q, q2⟩ := g
  exact ⟨iv a, fun k => (q.kept f0 k0).get (tab_get ha), h0, f0, k0, q2 a ha⟩

theorem OL.row {β : Type} {n : Nat} {h : H} {ob N : Nat} {O : Nat → Prop} {L : Nat → List Int} (x : OL h ob N O L) {a : Nat} (ha : a < N) :
    ∃ rv, (∀ k : Value → M β, (bnd (opIndexAddr 1 (sl ob 0 N N) (i64 a)) fun p => bnd (opLoad p) k).run n h = (k rv).run n h) ∧ RdI h rv (L a) := by
  obtain ⟨ho, hs, iv, ib, t, hi, hd⟩ := x
  exact ⟨iv a, fun k => TV.get t ha (Nat.le_refl _), (hi a ha).1.rd⟩

theorem OL.row' {β : Type} {n : Nat} {h : H} {ob N : Nat} {O : Nat → Prop} {L : Nat → List Int} (x : OL h ob N O L) {a : Nat} (ha : a < N) :
    ∃ rv, (∀ k : Value → M β, (bnd (opIndexAddr 1 (sl ob 0 N N) (i64 a)) fun p => bnd (opLoad p) k).run n h = (k rv).run n h) ∧ ∀ h' : H, (∀ c, O c → h'.get c = h.get c) → RdI h' rv (L a) := by
  obtain ⟨ho, hs, iv, ib, t, hi, hd⟩ := x
  exact ⟨iv a, fun k => TV.get t ha (Nat.le_refl _), fun h' hk => ((hi a ha).1.keep fun h0 => hk _ ((hi a ha).2 (by rintro e; exact h0 (by rw [e]; rfl))).1).rd⟩

theorem OL.gr {h : H} {n ob N : Nat} {O : Nat → Prop} {L : Nat → List Int} {adj : Nat → List Nat} (x : OL h ob N O L) (f : Fr n h) (e : ∀ j, j < N → L j = nats (adj j)) : Gr h n (sl ob 0 N N) N adj := by
  obtain ⟨ho, hs, iv, ib, t, hi, hd⟩ := x
  refine ⟨rfl, h, f, fun _ _ => rfl, iv, t.rd, fun j hj => ?_⟩
  have := (hi j hj).1.rd
  rw [e j hj] at this
  exact this

/-- A graph, laid in a block of its own. -/
def GB (h : H) (g N : Nat) (tv : Value) : Prop := h.get g = some ⟨[i64 N, tv], .own⟩
abbrev gv (N : Nat) (tv : Value) : Value := .agg #[i64 N, tv]

section
variable {β : Type} {n g N : Nat} {h : H} {tv : Value} {k : Value → M β}
theorem GB.box (f : Fr n h) (h1 : one tv = true) : ∃ h', (∀ k : Value → M β, (bnd (opBoxN (gv N tv)) k).run n h = (k (pt n 0)).run (n + 1) h') ∧ GB h' n N tv ∧ Ev No n h (n + 1) h' := by
  refine ⟨_, fun k => ?_, H.get_set_same _ _ _, f.new _, by omega, fun c hc _ => H.get_set_ne _ _ (by omega)⟩
  rw [show gv N tv = .agg ([i64 N, tv] : List Value).toArray from rfl, run_box f (by rw [List.all_cons, List.all_cons, h1]; rfl)]
theorem GB.nn (b : GB h g N tv) : (bnd (opFieldAddr 0 (pt g 0)) fun p => bnd (opLoad p) k).run n h = (k (i64 N)).run n h := by
  rw [st_field, Nat.zero_add, ld1 b (by decide) rfl]
theorem GB.t (b : GB h g N tv) : (bnd (opFieldAddr 1 (pt g 0)) fun p => bnd (opLoad p) k).run n h = (k tv).run n h := by
  rw [st_field, Nat.zero_add, ld1 b (by decide) rfl]
theorem GB.all (b : GB h g N tv) : (bnd (opLoadN 2 (pt g 0)) k).run n h = (k (gv N tv)).run n h := by
  rw [run_loadN, b, ldN_some (by decide) (by simp)]
  rfl
theorem GB.lt (b : GB h g N tv) (f : Fr n h) : g < n := f.lt b
theorem GB.ev {n' : Nat} {h' : H} {P : Nat → Prop} (b : GB h g N tv) (e : Ev P n h n' h') (hb : g < n) (hp : ¬ P g) : GB h' g N tv := by unfold GB; rw [e.keep g hb hp]; exact b
/-- A graph, put into a variable. -/
theorem GB.put {xs : List Value} (hb : h.get g = some ⟨xs, .own⟩) (hx : xs.length = 2) (f : Fr n h) (h1 : one tv = true) : ∃ h', (∀ k : Value → M β, (bnd (opStoreN 2 (pt g 0) (gv N tv)) k).run n h = (k undef).run n h') ∧ GB h' g N tv ∧ Ev (fun c => c = g) n h n h' := by
  refine ⟨_, fun k => run_storeN (vs := [i64 N, tv]) hb (.inl rfl) (by rw [List.all_cons, List.all_cons, h1]; rfl) rfl hx, H.get_set_same _ _ _, f.set _ (f.lt hb), Nat.le_refl _, fun c _ hc => H.get_set_ne _ _ hc⟩
end

end Go.Fw
