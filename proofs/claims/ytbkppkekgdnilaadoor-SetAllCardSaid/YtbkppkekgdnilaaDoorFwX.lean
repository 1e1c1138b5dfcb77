/-
  Steps whose side conditions are plain arithmetic; reads and writes in one.
-/
import Derived.Test.YtbkppkekgdnilaaDoorFwS
import Derived.Test.YtbkppkekgdnilaaDoorFwV
namespace Go.Fw

section
variable {β : Type} {n : Nat} {h : H} {k : Value → M β}

theorem sx_add {a b : Int} (hw : -9223372036854775808 ≤ a + b ∧ a + b ≤ 9223372036854775807) : bnd (opBin .add (.int .i64 a) (.int .i64 b)) k = k (.int .i64 (a + b)) := by rw [st_add, wrap64 hw]
theorem sx_sub {a b : Int} (hw : -9223372036854775808 ≤ a - b ∧ a - b ≤ 9223372036854775807) : bnd (opBin .sub (.int .i64 a) (.int .i64 b)) k = k (.int .i64 (a - b)) := by rw [st_sub, wrap64 hw]
theorem sx_mul {a b : Int} (hw : -9223372036854775808 ≤ a * b ∧ a * b ≤ 9223372036854775807) : bnd (opBin .mul (.int .i64 a) (.int .i64 b)) k = k (.int .i64 (a * b)) := by rw [st_mul, wrap64 hw]
theorem sx_conv {z : Int} (hw : -9223372036854775808 ≤ z ∧ z ≤ 9223372036854775807) : bnd (opConv .i64 (.int .i64 z)) k = k (.int .i64 z) := by rw [st_conv, wrap64 hw]
theorem sx_pos {α : Type} {c : Prop} [Decidable c] {a b : α} (hc : c) : ite c a b = a := if_pos hc
theorem sx_neg {α : Type} {c : Prop} [Decidable c] {a b : α} (hc : ¬ c) : ite c a b = b := if_neg hc

/-- One cell is looked at. -/
theorem ld1 {b o : Nat} {cs : List Value} {kd : Kind} {v : Value} (hb : h.get b = some ⟨cs, kd⟩) (hk : kd ≠ .dead) (hv : cs[o]? = some v) : (bnd (opLoad (pt b o)) k).run n h = (k v).run n h := by
  rw [run_load, hb, ldm_some hk hv]
/-- A cell of a table is looked at, by its number. -/
theorem ldT {b o N : Nat} {f : Nat → Value} {kd : Kind} (hb : h.get b = some ⟨tab N f, kd⟩) (hk : kd ≠ .dead) (ho : o < N) : (bnd (opLoad (pt b o)) k).run n h = (k (f o)).run n h := ld1 hb hk (tab_get ho)
theorem st1 {b o : Nat} {cs : List Value} {kd : Kind} {v : Value} (hb : h.get b = some ⟨cs, kd⟩) (hk : kd = .own ∨ kd = .grow) (h1 : one v = true) (ho : o < cs.length) : (bnd (opStore (pt b o) v) k).run n h = (k undef).run n (h.set b ⟨cs.set o v, kd⟩) := by
  rw [run_store, hb, stm_some hk h1 ho]
theorem stT {b o N : Nat} {f : Nat → Value} {kd : Kind} {v : Value} (hb : h.get b = some ⟨tab N f, kd⟩) (hk : kd = .own ∨ kd = .grow) (h1 : one v = true) (ho : o < N) : (bnd (opStore (pt b o) v) k).run n h = (k undef).run n (h.set b ⟨tab N fun i => if i = o then v else f i, kd⟩) := by
  rw [st1 hb hk h1 (by rw [tab_len]; exact ho), tab_set]
/-- The address of an element. -/
theorem ix1 {b o len cap : Nat} {kd : IntKind} {i : Nat} (hi : i < len) : bnd (opIndexAddr 1 (sl b o len cap) (.int kd (i : Int))) k = k (pt b (o + i)) := by
  rw [st_ix, if_pos (by omega), Int.toNat_natCast, Nat.mul_one]
theorem ix1I {b o len cap : Nat} {kd : IntKind} {i : Int} (hi : 0 ≤ i ∧ i < len) : bnd (opIndexAddr 1 (sl b o len cap) (.int kd i)) k = k (pt b (o + i.toNat)) := by
  rw [st_ix, if_pos hi, Nat.mul_one]
theorem Rd.get {v : Value} {cs : List Value} (g : Rd h v cs) {i : Nat} {x : Value} (hx : cs[i]? = some x) : (bnd (opIndexAddr 1 v (i64 i)) fun p => bnd (opLoad p) k).run n h = (k x).run n h := by
  obtain ⟨b, o, e1, e2⟩ := g.ix (β := β) hx
  rw [e1, e2]
theorem Rd.keep {h' : H} {v : Value} {cs : List Value} (g : Rd h v cs) (hk : ∀ b, (h.get b).isSome = true → h'.get b = h.get b) : Rd h' v cs := by
  rcases g with g | ⟨b, o, c, kd, rfl, g⟩
  · exact .inl g
  · refine .inr ⟨b, o, c, kd, rfl, fun h0 => ?_⟩
    obtain ⟨xs, h1, h2, h3⟩ := g h0
    exact ⟨xs, by rw [hk b (by rw [h1]; rfl)]; exact h1, h2, h3⟩
/-- What lies below n is kept. -/
theorem Rd.kept {m : Nat} {h' : H} {v : Value} {cs : List Value} (g : Rd h v cs) (f : Fr m h) (hk : ∀ b, b < m → h'.get b = h.get b) : Rd h' v cs := g.keep fun b hb => by
  rcases Nat.lt_or_ge b m with h1 | h1
  · exact hk b h1
  · rw [f b h1] at hb; cases hb
end

/-- Numbers in a slice that is read. -/
abbrev RdI (h : H) (v : Value) (zs : List Int) : Prop := Rd h v (zs.map i64)
/-- Numbers in a slice that grows by appends. -/
abbrev GlI (h : H) (v : Value) (b : Nat) (zs : List Int) : Prop := Gl h v b (zs.map i64)

section
variable {β : Type} {n : Nat} {h : H} {k : Value → M β}
theorem Rd.lenI {v : Value} {zs : List Int} (g : RdI h v zs) : bnd (opLen v) k = k (i64 zs.length) := by rw [g.len, List.length_map]
theorem Rd.getI {v : Value} {zs : List Int} (g : RdI h v zs) {i : Nat} (hi : i < zs.length) : (bnd (opIndexAddr 1 v (i64 i)) fun p => bnd (opLoad p) k).run n h = (k (i64 zs[i])).run n h := g.get (by simp [hi])
theorem Gl.lenI {v : Value} {b : Nat} {zs : List Int} (g : GlI h v b zs) : bnd (opLen v) k = k (i64 zs.length) := by rw [g.len, List.length_map]

theorem allI {zs : List Int} : (zs.map i64).all one = true := by simp [List.all_eq_true]; intro _ _; rfl

/-- One number more. -/
theorem Gl.pushI {v : Value} {b : Nat} {zs : List Int} {y z : Int} (g : GlI h v b zs) (f : Fr n h) (hl : zs.length < 1099511627776) :
    ∃ h' v', (∀ k : Value → M β, (bnd (opBuildSlice 1 (rep 1 [i64 y]) [(0, 1, false, i64 z)]) fun t => bnd (opAppend 1 8 v t) k).run n h = (k v').run (n + 2) h') ∧ GlI h' v' (n + 1) (zs ++ [z]) ∧ Fr (n + 2) h' ∧ ∀ c, c < n → (zs ≠ [] → c ≠ b) → h'.get c = h.get c := by
  have hne : zs.map i64 ≠ [] → b ≠ n := fun h0 => by have := g.lt f h0; omega
  have g1 : Gl (h.set n ⟨[i64 z], .own⟩) v b (zs.map i64) := g.keep fun h0 => H.get_set_ne _ _ (hne h0)
  obtain ⟨h2, e2, g2, f2, k2⟩ := run_append (β := β) (bytes := 8) (x := i64 z) g1 (f.new _) (H.get_set_same _ _ _) (by decide) rfl allI hne (by rw [List.length_map]; omega)
  refine ⟨h2, _, fun k => by rw [run_single f rfl]; exact e2 k, ?_, f2, fun c hc hcb => ?_⟩
  · unfold GlI; rw [List.map_append]; exact g2
  · rw [k2 c (by omega) (fun h0 => hcb (by rintro rfl; exact h0 rfl)), H.get_set_ne _ _ (by omega)]
end

/-! ## Moments -/

/-- From one moment to a later one: what is below and not in P is kept. -/
structure Ev (P : Nat → Prop) (n : Nat) (h : H) (n' : Nat) (h' : H) : Prop where
  f : Fr n' h'
  le : n ≤ n'
  keep : ∀ c, c < n → ¬ P c → h'.get c = h.get c

/-- Nobody. -/
abbrev No : Nat → Prop := fun _ => False

theorem Ev.refl {P : Nat → Prop} {n : Nat} {h : H} (f : Fr n h) : Ev P n h n h := ⟨f, Nat.le_refl _, fun _ _ _ => rfl⟩
theorem Ev.trans {P : Nat → Prop} {n n' n'' : Nat} {h h' h'' : H} {Q : Nat → Prop} (a : Ev P n h n' h') (b : Ev Q n' h' n'' h'') (hq : ∀ c, c < n → Q c → P c) : Ev P n h n'' h'' :=
  ⟨b.f, Nat.le_trans a.le b.le, fun c hc hP => by rw [b.keep c (by have := a.le; omega) fun q => hP (hq c hc q), a.keep c hc hP]⟩
theorem Ev.mono {P Q : Nat → Prop} {n n' : Nat} {h h' : H} (a : Ev P n h n' h') (hq : ∀ c, c < n → P c → Q c) : Ev Q n h n' h' := ⟨a.f, a.le, fun c hc hQ => a.keep c hc fun p => hQ (hq c hc p)⟩
theorem Ev.no {n n' : Nat} {h h' : H} (a : Ev No n h n' h') {c : Nat} (hc : c < n) : h'.get c = h.get c := a.keep c hc fun h => h

/-- Numbers in a list that was made at n or later. -/
def NewI (h : H) (n : Nat) (v : Value) (zs : List Int) : Prop := ∃ b, GlI h v b zs ∧ (zs ≠ [] → n ≤ b)
theorem NewI.nil {h : H} {n : Nat} : NewI h n nsl [] := ⟨0, .inl ⟨rfl, rfl⟩, fun h => absurd rfl h⟩
theorem NewI.rd {h : H} {n : Nat} {v : Value} {zs : List Int} (g : NewI h n v zs) : RdI h v zs := by
  obtain ⟨b, g, _⟩ := g; exact g.rd
theorem NewI.mono {h : H} {n m : Nat} {v : Value} {zs : List Int} (g : NewI h n v zs) (hm : m ≤ n) : NewI h m v zs := by
  obtain ⟨b, g, q⟩ := g; exact ⟨b, g, fun h => Nat.le_trans hm (q h)⟩
theorem NewI.keep {h h' : H} {n m : Nat} {v : Value} {zs : List Int} (g : NewI h n v zs) (f : Fr m h) (hk : ∀ c, n ≤ c → c < m → h'.get c = h.get c) : NewI h' n v zs := by
  obtain ⟨b, g, q⟩ := g
  exact ⟨b, g.keep fun h0 => hk b (q (by rintro rfl; exact h0 rfl)) (g.lt f h0), q⟩
theorem NewI.ev {h h' : H} {n m m' : Nat} {v : Value} {zs : List Int} {P : Nat → Prop} (g : NewI h n v zs) (f : Fr m h) (e : Ev P m h m' h') (hP : ∀ c, P c → c < n) : NewI h' n v zs := g.keep f fun c h1 h2 => e.keep c h2 fun p => by have := hP c p; omega

/-- One number more. -/
theorem NewI.push {β : Type} {lo n : Nat} {h : H} {v : Value} {zs : List Int} {y z : Int} (g : NewI h lo v zs) (f : Fr n h) (hlo : lo ≤ n) (hl : zs.length < 1099511627776) :
    ∃ h' v', (∀ k : Value → M β, (bnd (opBuildSlice 1 (rep 1 [i64 y]) [(0, 1, false, i64 z)]) fun t => bnd (opAppend 1 8 v t) k).run n h = (k v').run (n + 2) h') ∧ NewI h' lo v' (zs ++ [z]) ∧ Ev (fun c => lo ≤ c) n h (n + 2) h' := by
  obtain ⟨b, g, q⟩ := g
  obtain ⟨h', v', e, g', f', k⟩ := g.pushI (β := β) (y := y) (z := z) f hl
  exact ⟨h', v', e, ⟨n + 1, g', fun _ => by omega⟩, f', by omega, fun c hc hn => k c hc fun h0 => by have := q h0; omega⟩


end Go.Fw
