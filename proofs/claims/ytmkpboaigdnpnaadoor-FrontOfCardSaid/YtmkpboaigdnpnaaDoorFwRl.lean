/-
  Lists of lists that grow by whole rows.
-/
import Derived.Test.YtmkpboaigdnpnaaDoorFwZ
set_option maxRecDepth 20000
set_option linter.unusedVariables false
namespace Go.Fw

/-- A list of lists of numbers that grows by whole rows; its blocks are at lo or later and before hi. -/
def RL (h : H) (lo hi : Nat) (v : Value) (G : Nat) (R : Nat → List Int) : Prop :=
  ∃ (ob : Nat) (iv : Nat → Value) (ib : Nat → Nat), Gl h v ob (tab G iv) ∧ (G ≠ 0 → lo ≤ ob ∧ ob < hi) ∧ ∀ j, j < G → GlI h (iv j) (ib j) (R j) ∧ (R j ≠ [] → lo ≤ ib j ∧ ib j < hi ∧ ib j ≠ ob)

theorem RL.nil {h : H} {lo hi : Nat} {R : Nat → List Int} : RL h lo hi nsl 0 R := ⟨0, fun _ => nsl, fun _ => 0, .inl ⟨rfl, rfl⟩, fun h => absurd rfl h, fun j hj => by omega⟩

theorem mapI_ne {zs : List Int} : zs.map i64 ≠ [] ↔ zs ≠ [] := by
  cases zs <;> simp

theorem RL.keep {h h' : H} {lo hi : Nat} {v : Value} {G : Nat} {R : Nat → List Int} (x : RL h lo hi v G R) (hk : ∀ c, lo ≤ c → c < hi → h'.get c = h.get c) : RL h' lo hi v G R := by
  obtain ⟨ob, iv, ib, g, ho, hr⟩ := x
  exact ⟨ob, iv, ib, g.keep fun h0 => hk ob (ho (tab_ne.1 h0)).1 (ho (tab_ne.1 h0)).2, ho, fun j hj => ⟨(hr j hj).1.keep fun h0 => hk _ ((hr j hj).2 (mapI_ne.1 h0)).1 ((hr j hj).2 (mapI_ne.1 h0)).2.1, (hr j hj).2⟩⟩

theorem RL.congr {h : H} {lo hi : Nat} {v : Value} {G : Nat} {R R' : Nat → List Int} (x : RL h lo hi v G R) (e : ∀ j, j < G → R j = R' j) : RL h lo hi v G R' := by
  obtain ⟨ob, iv, ib, g, ho, hr⟩ := x
  exact ⟨ob, iv, ib, g, ho, fun j hj => by rw [← e j hj]; exact hr j hj⟩

theorem RL.len {β : Type} {h : H} {lo hi : Nat} {v : Value} {G : Nat} {R : Nat → List Int} (x : RL h lo hi v G R) {k : Value → M β} : bnd (opLen v) k = k (i64 G) := by
  obtain ⟨ob, iv, ib, g, _⟩ := x
  rw [g.len, tab_len]

theorem veq_gl {h : H} {v : Value} {b : Nat} {cs : List Value} (g : Gl h v b cs) : veq v v = true := by
  rcases g with ⟨_, rfl⟩ | ⟨_, rfl, _⟩ <;> simp [veq]

/-- One of the rows; where it lies. -/
theorem RL.row {h : H} {lo hi : Nat} {v : Value} {G : Nat} {R : Nat → List Int} (x : RL h lo hi v G R) {a : Nat} (ha : a < G) :
    ∃ ob rv cs, v = sl ob 0 G (U + 1) ∧ lo ≤ ob ∧ ob < hi ∧ h.get ob = some ⟨cs, .grow⟩ ∧ cs[a]? = some rv ∧ RdI h rv (R a) ∧ veq rv rv = true := by
  obtain ⟨ob, iv, ib, g, ho, hr⟩ := x
  rcases g with ⟨g0, _⟩ | ⟨_, g1, g2⟩
  · exact absurd g0 (tab_ne.2 (by omega))
  · rw [tab_len] at g1
    exact ⟨ob, iv a, _, g1, (ho (by omega)).1, (ho (by omega)).2, g2, tab_get ha, (hr a ha).1.rd, veq_gl (hr a ha).1⟩

theorem RL.get {β : Type} {n : Nat} {h : H} {lo hi : Nat} {v : Value} {G : Nat} {R : Nat → List Int} (x : RL h lo hi v G R) {a : Nat} (ha : a < G) :
    ∃ rv, (∀ k : Value → M β, (bnd (opIndexAddr 1 v (i64 (a : Nat))) fun p => bnd (opLoad p) k).run n h = (k rv).run n h) ∧ RdI h rv (R a) := by
  obtain ⟨ob, rv, cs, rfl, _, _, h2, h3, h4, _⟩ := x.row ha
  exact ⟨rv, fun k => by rw [ix1 ha, ld1 h2 (by decide) (by rw [Nat.zero_add]; exact h3)], h4⟩

/-- One row more. -/
theorem RL.push {β : Type} {n bytes : Nat} {h : H} {lo hi : Nat} {v lv y : Value} {G : Nat} {R : Nat → List Int} {zs : List Int} (x : RL h lo hi v G R) (f : Fr n h) (hl : NewI h hi lv zs) (hlo : lo ≤ hi) (hn : hi ≤ n) (hs : G + 1 ≤ 1099511627776 ∧ (G + 1) * bytes ≤ 70368744177664) :
    ∃ h' v', (∀ k : Value → M β, (bnd (opBuildSlice 1 (rep 1 [y]) [(0, 1, false, lv)]) fun t => bnd (opAppend 1 bytes v t) k).run n h = (k v').run (n + 2) h') ∧ RL h' lo (n + 2) v' (G + 1) (fun j => if j = G then zs else R j) ∧ Ev (fun c => lo ≤ c) n h (n + 2) h' := by
  obtain ⟨ob, iv, ib, g, ho, hr⟩ := x
  obtain ⟨lb, gl, hlb⟩ := hl
  have h1 : one lv = true := gl.one_v
  have hbm : tab G iv ≠ [] → ob ≠ n := fun h0 => by have := g.lt f h0; omega
  have g1 : Gl (h.set n ⟨[lv], .own⟩) v ob (tab G iv) := g.keep fun h0 => H.get_set_ne _ _ (hbm h0)
  obtain ⟨h2, e2, g2, f2, k2⟩ := run_append (β := β) (bytes := bytes) (x := lv) g1 (f.new _) (H.get_set_same _ _ _) (by decide) h1 (tab_one fun j hj => (hr j hj).1.one_v) hbm (by rw [tab_len]; exact hs)
  rw [tab_len] at e2 g2
  have kk : ∀ c, c < n → (G ≠ 0 → c ≠ ob) → h2.get c = h.get c := fun c hc hne => by
    rw [k2 c (by omega) fun h0 => hne (tab_ne.1 h0), H.get_set_ne _ _ (by omega)]
  refine ⟨h2, sl (n + 1) 0 (G + 1) (U + 1), fun k => ?_, ⟨n + 1, fun j => if j = G then lv else iv j, fun j => if j = G then lb else ib j, ?_, fun _ => ⟨by omega, by omega⟩, fun j hj => ?_⟩, f2, by omega, fun c hc hlc => kk c hc fun h0 => by have := (ho h0).1; omega⟩
  · rw [run_single f h1, e2]
  · have e : tab (G + 1) (fun j => if j = G then lv else iv j) = tab G iv ++ [lv] := by
      rw [tab_succ, if_pos rfl]
      congr 1
      exact tab_ext fun i hi => if_neg (by omega)
    rw [e]; exact g2
  · dsimp only
    by_cases e : j = G
    · subst e
      rw [if_pos rfl, if_pos rfl, if_pos rfl]
      refine ⟨gl.keep fun h0 => ?_, fun h0 => ?_⟩
      · have := hlb (mapI_ne.1 h0)
        exact kk lb (gl.lt f h0) fun hj => by have := (ho hj).2; omega
      · have := hlb h0
        have := gl.lt f (mapI_ne.2 h0)
        omega
    · rw [if_neg e, if_neg e, if_neg e]
      refine ⟨(hr j (by omega)).1.keep fun h0 => ?_, fun h0 => ?_⟩
      · have := (hr j (by omega)).2 (mapI_ne.1 h0)
        exact kk _ ((hr j (by omega)).1.lt f h0) fun _ => this.2.2
      · have := (hr j (by omega)).2 h0
        have := (hr j (by omega)).1.lt f (mapI_ne.2 h0)
        omega

end Go.Fw
