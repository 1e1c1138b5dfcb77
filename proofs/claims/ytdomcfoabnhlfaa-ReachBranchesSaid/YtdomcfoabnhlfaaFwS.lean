/-
  Lists of lists that the call itself makes by appends.
-/
import Derived.Test.YtdomcfoabnhlfaaFwR
namespace Go.Fw

/-! ## A table -/
def tab (N : Nat) (f : Nat → Value) : List Value := (List.range N).map f
theorem tab_len {N : Nat} {f : Nat → Value} : (tab N f).length = N := by simp [tab]
theorem tab_get {N : Nat} {f : Nat → Value} {i : Nat} (h : i < N) : (tab N f)[i]? = some (f i) := by simp [tab, h]
theorem tab_none {N : Nat} {f : Nat → Value} {i : Nat} (h : N ≤ i) : (tab N f)[i]? = none := List.getElem?_eq_none (by rw [tab_len]; exact h)
theorem tab_ext {N : Nat} {f g : Nat → Value} (h : ∀ i, i < N → f i = g i) : tab N f = tab N g := by
  apply List.ext_getElem?
  intro i
  by_cases hi : i < N
  · rw [tab_get hi, tab_get hi, h i hi]
  · rw [tab_none (by omega), tab_none (by omega)]
theorem tab_set {N : Nat} {f : Nat → Value} {a : Nat} {v : Value} : (tab N f).set a v = tab N fun i => if i = a then v else f i := by
  apply List.ext_getElem?
  intro i
  rw [List.getElem?_set]
  by_cases h : i < N
  · rw [tab_get h, tab_get h, tab_len]
    by_cases e : a = i
    · subst e; simp [h]
    · rw [if_neg e, if_neg (Ne.symm e)]
  · rw [tab_none (by omega), tab_none (by omega), tab_len]
    split
    · rw [if_neg (by omega)]
    · rfl
theorem tab_succ {N : Nat} {f : Nat → Value} : tab (N + 1) f = tab N f ++ [f N] := by simp [tab, List.range_succ]
theorem tab_one {N : Nat} {f : Nat → Value} (h : ∀ i, i < N → one (f i) = true) : (tab N f).all one = true := by
  simp only [tab, List.all_map, List.all_eq_true, List.mem_range]
  exact h
theorem tab_ne {N : Nat} {f : Nat → Value} : tab N f ≠ [] ↔ N ≠ 0 := by
  constructor
  · rintro h rfl; exact h rfl
  · intro h e; exact h (by rw [← tab_len (N := N) (f := f), e]; rfl)
theorem tab_rep {N : Nat} {v : Value} : rep N [v] = tab N fun _ => v := by
  induction N with
  | zero => rfl
  | succ N ih => rw [tab_succ, ← ih]; simp [rep, List.replicate_succ']

theorem run_chk {β : Type} {n : Nat} {h : H} {b o : Nat} {v : Value} {cs : List Value} {kd : Kind} {k : Unit → M β} (hb : h.get b = some ⟨cs, kd⟩) (hk : kd ≠ .dead) (hv : cs[o]? = some v) (hq : veq v v = true) :
    (bnd (opChk false (pt b o) v) k).run n h = (k ()).run n h := by
  have hl : o < cs.length := (List.getElem?_eq_some_iff.1 hv).1
  show (bnd (bnd (rdN b o 1) fun cs => if veqL cs [v] then ret () else fail) k).run n h = _
  rw [bnd_assoc, run_rdN, hb, ldN_some hk (by omega)]
  have : (cs.drop o).take 1 = [v] := by
    rw [List.drop_eq_getElem_cons hl]
    simp only [List.take_succ_cons, List.take_zero]
    rw [List.getElem?_eq_getElem hl] at hv
    cases hv; rfl
  rw [this]
  simp only [veqL, hq, Bool.and_self, if_true]
  rfl

/-! ## Several cells at once -/
theorem run_storeN {β : Type} {n : Nat} {h : H} {b s : Nat} {xs : List Value} {kd : Kind} {vs : List Value} {k : Value → M β} (hb : h.get b = some ⟨xs, kd⟩) (hk : kd = .own ∨ kd = .grow) (h1 : vs.all one = true) (hl : vs.length = s) (hx : xs.length = s) :
    (bnd (opStoreN s (pt b 0) (.agg vs.toArray)) k).run n h = (k undef).run n (h.set b ⟨vs, kd⟩) := by
  show (bnd (if vs.toArray.size = s then bnd (wrN b 0 vs.toArray.toList) fun _ => ret undef else fail) k).run n h = _
  rw [if_pos (by simpa using hl), List.toList_toArray, bnd_assoc]
  have hov : over xs 0 vs = vs := by
    unfold over
    simp [List.drop_eq_nil_iff, hl, hx]
  have e : (wrN b 0 vs).run n h = some ((), n, h.set b ⟨vs, kd⟩) := by
    show wrNF b 0 vs n h = _
    unfold wrNF
    rw [if_pos h1, hb]
    rcases hk with rfl | rfl <;> simp only [Nat.zero_add] <;> rw [if_pos (by omega), hov]
  rw [run_bnd e]
  rfl

theorem run_chkN {β : Type} {n : Nat} {h : H} {b o : Nat} {vs : List Value} {cs : List Value} {kd : Kind} {k : Unit → M β} (hb : h.get b = some ⟨cs, kd⟩) (hk : kd ≠ .dead) (ho : o + vs.length ≤ cs.length) (hv : (cs.drop o).take vs.length = vs) (hq : veqL vs vs = true) :
    (bnd (opChk true (pt b o) (.agg vs.toArray)) k).run n h = (k ()).run n h := by
  show (bnd (bnd (rdN b o (vs.toArray.toList.length)) fun cs => if veqL cs vs.toArray.toList then ret () else fail) k).run n h = _
  rw [List.toList_toArray, bnd_assoc, run_rdN, hb, ldN_some hk ho, hv, if_pos hq]
  rfl

theorem tab_two {N : Nat} {f : Nat → Value} {i : Nat} (h : i + 1 < N) : ((tab N f).drop i).take 2 = [f i, f (i + 1)] := by
  apply List.ext_getElem?
  intro j
  rw [List.getElem?_take, List.getElem?_drop]
  match j with
  | 0 => rw [if_pos (by omega), Nat.add_zero, tab_get (by omega)]; rfl
  | 1 => rw [if_pos (by omega), tab_get (by omega)]; rfl
  | j + 2 => rw [if_neg (by omega)]; rfl

/-! ## Lists of lists -/

/-- A slice of slices: all of it lies at lo or behind, each piece by itself. -/
def LL (h : H) (v : Value) (lo G : Nat) (L : Nat → List Value) : Prop :=
  ∃ (ob : Nat) (iv : Nat → Value) (ib : Nat → Nat), Gl h v ob (tab G iv) ∧ (G ≠ 0 → lo ≤ ob) ∧ (∀ j, j < G → Gl h (iv j) (ib j) (L j) ∧ (L j ≠ [] → lo ≤ ib j ∧ ib j ≠ ob)) ∧
    ∀ i j, i < G → j < G → i ≠ j → L i ≠ [] → L j ≠ [] → ib i ≠ ib j

theorem LL.nil {h : H} {lo : Nat} {L : Nat → List Value} : LL h nsl lo 0 L := ⟨0, fun _ => nsl, fun _ => 0, .inl ⟨rfl, rfl⟩, fun h => absurd rfl h, fun j hj => by omega, fun i j hi => by omega⟩

theorem Gl.one_v {h : H} {v : Value} {b : Nat} {cs : List Value} (g : Gl h v b cs) : one v = true := by
  rcases g with ⟨_, rfl⟩ | ⟨_, rfl, _⟩ <;> rfl

theorem LL.keep {h h' : H} {v : Value} {lo n G : Nat} {L : Nat → List Value} (l : LL h v lo G L) (f : Fr n h) (hk : ∀ c, lo ≤ c → c < n → h'.get c = h.get c) : LL h' v lo G L := by
  obtain ⟨ob, iv, ib, g, hlo, hi, hd⟩ := l
  refine ⟨ob, iv, ib, g.keep fun h0 => hk ob (hlo (tab_ne.1 h0)) (g.lt f h0), hlo, fun j hj => ⟨(hi j hj).1.keep fun h0 => hk _ ((hi j hj).2 h0).1 ((hi j hj).1.lt f h0), (hi j hj).2⟩, hd⟩

theorem LL.mono {h : H} {v : Value} {lo lo' G : Nat} {L : Nat → List Value} (l : LL h v lo G L) (hl : lo' ≤ lo) : LL h v lo' G L := by
  obtain ⟨ob, iv, ib, g, hlo, hi, hd⟩ := l
  exact ⟨ob, iv, ib, g, fun h0 => Nat.le_trans hl (hlo h0), fun j hj => ⟨(hi j hj).1, fun h0 => ⟨Nat.le_trans hl ((hi j hj).2 h0).1, ((hi j hj).2 h0).2⟩⟩, hd⟩

theorem LL.congr {h : H} {v : Value} {lo G : Nat} {L L' : Nat → List Value} (l : LL h v lo G L) (e : ∀ j, j < G → L j = L' j) : LL h v lo G L' := by
  obtain ⟨ob, iv, ib, g, hlo, hi, hd⟩ := l
  exact ⟨ob, iv, ib, g, hlo, fun j hj => by rw [← e j hj]; exact hi j hj, fun i j hi' hj hne h1 h2 => hd i j hi' hj hne (by rw [e i hi']; exact h1) (by rw [e j hj]; exact h2)⟩

theorem LL.len {β : Type} {h : H} {v : Value} {lo G : Nat} {L : Nat → List Value} (l : LL h v lo G L) {k : Value → M β} : bnd (opLen v) k = k (i64 G) := by
  obtain ⟨ob, iv, ib, g, _⟩ := l
  rw [g.len, tab_len]

theorem LL.at_ {h : H} {v : Value} {lo G : Nat} {L : Nat → List Value} (l : LL h v lo G L) (hG : G ≠ 0) : ∃ ob, v = sl ob 0 G (U + 1) ∧ lo ≤ ob := by
  obtain ⟨ob, iv, ib, g, hlo, _⟩ := l
  rcases g with ⟨g0, _⟩ | ⟨_, g1, _⟩
  · exact absurd g0 (tab_ne.2 hG)
  · rw [tab_len] at g1; exact ⟨ob, g1, hlo hG⟩

/-- An empty list more. -/
theorem LL.push {h : H} {v : Value} {lo n G bytes : Nat} {L : Nat → List Value} (l : LL h v lo G L) (f : Fr n h) (hlo : lo ≤ n) (hL : L G = []) (hs : G + 1 ≤ 1099511627776 ∧ (G + 1) * bytes ≤ 70368744177664) {β : Type} :
    ∃ h' v', (∀ k : Value → M β, (bnd (opBuildSlice 1 (rep 1 [nsl]) [(0, 1, false, nsl)]) fun t => bnd (opAppend 1 bytes v t) k).run n h = (k v').run (n + 1 + 1) h') ∧ LL h' v' lo (G + 1) L ∧ Fr (n + 1 + 1) h' ∧ ∀ c, c < lo → h'.get c = h.get c := by
  obtain ⟨ob, iv, ib, g, hob, hi, hd⟩ := l
  have hbm : tab G iv ≠ [] → ob ≠ n := fun h0 => by have := g.lt f h0; omega
  have g1 : Gl (h.set n ⟨[nsl], .own⟩) v ob (tab G iv) := g.keep fun h0 => H.get_set_ne _ _ (hbm h0)
  obtain ⟨h2, e2, g2, f2, k2⟩ := run_append (β := β) (bytes := bytes) (x := nsl) g1 (f.new _) (H.get_set_same _ _ _) (by decide) rfl (tab_one fun j hj => (hi j hj).1.one_v) hbm (by rw [tab_len]; exact hs)
  rw [tab_len] at e2 g2
  refine ⟨h2, _, fun k => by rw [run_single f rfl]; exact e2 k, ⟨n + 1, fun j => if j = G then nsl else iv j, ib, ?_, fun _ => by omega, fun j hj => ?_, fun i j hi' hj hne h1 h2 => ?_⟩, f2, fun c hc => ?_⟩
  · rw [tab_succ, if_pos rfl, tab_ext (g := iv) fun i hi => if_neg (by omega)]; exact g2
  · dsimp only
    by_cases e : j = G
    · subst e; rw [if_pos rfl, hL]; exact ⟨.inl ⟨rfl, rfl⟩, fun h => absurd rfl h⟩
    · rw [if_neg e]
      have hj' : j < G := by omega
      have hne : tab G iv ≠ [] := tab_ne.2 (by omega)
      refine ⟨(hi j hj').1.keep fun h0 => ?_, fun h0 => ⟨((hi j hj').2 h0).1, ?_⟩⟩
      · have h3 := (hi j hj').1.lt f h0
        rw [k2 _ (by omega) (fun _ => ((hi j hj').2 h0).2), H.get_set_ne _ _ (by omega)]
      · have := (hi j hj').1.lt f h0; omega
  · have : i ≠ G := fun e => h1 (by rw [e]; exact hL)
    have : j ≠ G := fun e => h2 (by rw [e]; exact hL)
    exact hd i j (by omega) (by omega) hne h1 h2
  · rw [k2 c (by omega) (fun h0 => by have := hob (tab_ne.1 h0); omega), H.get_set_ne _ _ (by omega)]

/-- One value more in one of the lists. -/
theorem LL.app {h : H} {v : Value} {lo n G bytes J : Nat} {L : Nat → List Value} {x z : Value} (l : LL h v lo G L) (f : Fr n h) (hlo : lo ≤ n) (hJ : J < G) (h1 : one x = true) (hall : (L J).all one = true)
    (hs : (L J).length + 1 ≤ 1099511627776 ∧ ((L J).length + 1) * bytes ≤ 70368744177664) {β : Type} :
    ∃ h2 ob iv a, v = sl ob 0 G (U + 1) ∧ lo ≤ ob ∧ ob < n ∧ h.get ob = some ⟨tab G iv, .grow⟩ ∧ h2.get ob = some ⟨tab G iv, .grow⟩ ∧ one a = true ∧
      (∀ k : Value → M β, (bnd (opBuildSlice 1 (rep 1 [z]) [(0, 1, false, x)]) fun t => bnd (opAppend 1 bytes (iv J) t) k).run n h = (k a).run (n + 1 + 1) h2) ∧ Fr (n + 1 + 1) h2 ∧ (∀ c, c < lo → h2.get c = h.get c) ∧
      LL (h2.set ob ⟨(tab G iv).set J a, .grow⟩) v lo G (fun j => if j = J then L j ++ [x] else L j) ∧ Fr (n + 1 + 1) (h2.set ob ⟨(tab G iv).set J a, .grow⟩) := by
  obtain ⟨ob, iv, ib, g, hob, hi, hd⟩ := l
  have hG : G ≠ 0 := by omega
  have hne : tab G iv ≠ [] := tab_ne.2 hG
  rcases g with ⟨g0, _⟩ | ⟨_, gv, gb⟩
  · exact absurd g0 hne
  rw [tab_len] at gv
  have hobn := f.lt gb
  have gJ := (hi J hJ).1
  have hbm : L J ≠ [] → ib J ≠ n := fun h0 => by have := gJ.lt f h0; omega
  have g1 : Gl (h.set n ⟨[x], .own⟩) (iv J) (ib J) (L J) := gJ.keep fun h0 => H.get_set_ne _ _ (hbm h0)
  obtain ⟨h2, e2, g2, f2, k2⟩ := run_append (β := β) (bytes := bytes) (x := x) g1 (f.new _) (H.get_set_same _ _ _) (by decide) h1 hall hbm hs
  have hk : ∀ c, c < n → (L J ≠ [] → c ≠ ib J) → h2.get c = h.get c := fun c hc hcb => by rw [k2 c (by omega) hcb, H.get_set_ne _ _ (by omega)]
  have hob2 : h2.get ob = some ⟨tab G iv, .grow⟩ := by rw [hk ob hobn fun h0 => ((hi J hJ).2 h0).2.symm]; exact gb
  refine ⟨h2, ob, iv, _, gv, hob hG, hobn, gb, hob2, g2.one_v, fun k => by rw [run_single f h1]; exact e2 k, f2, fun c hc => hk c (by omega) fun h0 => by have := ((hi J hJ).2 h0).1; omega, ?_, f2.set _ (by omega)⟩
  refine ⟨ob, fun j => if j = J then sl (n + 1) 0 ((L J).length + 1) (U + 1) else iv j, fun j => if j = J then n + 1 else ib j, ?_, hob, fun j hj => ?_, fun i j hi' hj hij q1 q2 => ?_⟩
  · rw [← tab_set]
    refine .inr ⟨by rw [tab_set]; exact tab_ne.2 hG, by rw [tab_set, tab_len]; exact gv, H.get_set_same _ _ _⟩
  · dsimp only
    by_cases e : j = J
    · subst e
      rw [if_pos rfl, if_pos rfl, if_pos rfl]
      exact ⟨g2.keep fun _ => H.get_set_ne _ _ (by omega), fun _ => ⟨by omega, by omega⟩⟩
    · rw [if_neg e, if_neg e, if_neg e]
      refine ⟨(hi j hj).1.keep fun h0 => ?_, (hi j hj).2⟩
      rw [H.get_set_ne _ _ ((hi j hj).2 h0).2, hk _ ((hi j hj).1.lt f h0) fun h0' => (hd j J hj hJ e h0 h0')]
  · dsimp only at q1 q2 ⊢
    by_cases e1 : i = J
    · subst e1
      rw [if_neg (Ne.symm hij)] at q2
      rw [if_pos rfl, if_neg (Ne.symm hij)]
      have := (hi j hj).1.lt f q2; omega
    · rw [if_neg e1] at q1
      rw [if_neg e1]
      by_cases e2 : j = J
      · rw [if_pos e2]
        have := (hi i hi').1.lt f q1; omega
      · rw [if_neg e2] at q2
        rw [if_neg e2]
        exact hd i j hi' hj hij q1 q2

/-! ## Slices that are read -/

def Rd (h : H) (v : Value) (cs : List Value) : Prop := (cs = [] ∧ v = nsl) ∨ ∃ b o c k, v = sl b o cs.length c ∧ (cs ≠ [] → ∃ xs, h.get b = some ⟨xs, k⟩ ∧ k ≠ .dead ∧ ∀ i, i < cs.length → xs[o + i]? = cs[i]?)

theorem Gl.rd {h : H} {v : Value} {b : Nat} {cs : List Value} (g : Gl h v b cs) : Rd h v cs := by
  rcases g with ⟨rfl, rfl⟩ | ⟨_, rfl, g⟩
  · exact .inl ⟨rfl, rfl⟩
  · exact .inr ⟨b, 0, _, _, rfl, fun _ => ⟨cs, g, by decide, fun i _ => by rw [Nat.zero_add]⟩⟩
theorem Rd.len {β : Type} {h : H} {v : Value} {cs : List Value} (g : Rd h v cs) {k : Value → M β} : bnd (opLen v) k = k (i64 cs.length) := by
  rcases g with ⟨rfl, rfl⟩ | ⟨b, o, c, kd, rfl, _⟩ <;> rfl
theorem Rd.ix {β : Type} {h : H} {v : Value} {cs : List Value} (g : Rd h v cs) {i : Nat} {x : Value} (hx : cs[i]? = some x) :
    ∃ b o, (∀ k : Value → M β, bnd (opIndexAddr 1 v (i64 i)) k = k (pt b o)) ∧ ∀ (n : Nat) (k : Value → M β), (bnd (opLoad (pt b o)) k).run n h = (k x).run n h := by
  have hi : i < cs.length := (List.getElem?_eq_some_iff.1 hx).1
  rcases g with ⟨rfl, _⟩ | ⟨b, o, c, kk, rfl, g⟩
  · exact absurd hi (Nat.not_lt_zero _)
  · obtain ⟨xs, h1, h2, h3⟩ := g (by rintro rfl; exact absurd hi (Nat.not_lt_zero _))
    refine ⟨b, o + i, fun k => ?_, fun n k => ?_⟩
    · rw [st_ix, if_pos (by omega), Int.toNat_natCast, Nat.mul_one]
    · rw [run_load, h1, ldm_some h2 (by rw [h3 i hi]; exact hx)]

/-- A slice of slices that is read. -/
def RdLL (h : H) (v : Value) (G : Nat) (L : Nat → List Value) : Prop := ∃ iv, Rd h v (tab G iv) ∧ ∀ j, j < G → Rd h (iv j) (L j)
theorem LL.rd {h : H} {v : Value} {lo G : Nat} {L : Nat → List Value} (l : LL h v lo G L) : RdLL h v G L := by
  obtain ⟨ob, iv, ib, g, _, hi, _⟩ := l
  exact ⟨iv, g.rd, fun j hj => (hi j hj).1.rd⟩

end Go.Fw
