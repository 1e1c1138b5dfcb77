/-
  A law's arguments that hold rows of numbers: what comes in of the first of them.
-/
import Derived.Test.YtbkppkekgdnilaaDoorFwT
import Derived.ChangeArms
set_option maxRecDepth 20000
set_option linter.unusedVariables false
namespace Go.Fw
open Go.ChangeShapes Go.WideShapes

/-- A slice that came in, whose cells may lead to what came in before. -/
theorem Entry.sliceV {G : Nat} {W : World} {n : Nat} {ρ : Map} {h : H} (e : Entry G W n ρ h) (a : Addr) (len cap : Nat) (cs : List Value) (hlen : len ≤ cap) (hcap : cap < U) (hcs : 0 < cap → 0 < cs.length)
    (hc : ∀ i v, cs[i]? = some v → ∃ v', W.cell? (a.add i) = some v' ∧ VR ρ v v') :
    ∃ ρ' h', Entry G W (n + 1) ρ' h' ∧ Le ρ ρ' ∧ VR ρ' (.slice (some ⟨n, 0, none⟩) len cap) (.slice (some a) len cap) ∧ h' = h.set n ⟨cs, if cap = 0 then .dead else .ro⟩ := by
  have hn : ρ n = none := by
    have := e.r.dom n
    rw [e.fresh n (Nat.le_refl _)] at this
    cases hq : ρ n with
    | none => rfl
    | some L => rw [hq] at this; cases this
  by_cases h0 : cap = 0
  · subst h0
    exact ⟨_, _, e.add ⟨a.block, a.off, 0⟩ (B := ⟨cs, .dead⟩) (not_mine_dead _) (fun hl => absurd rfl hl), Map.add_le _ hn, .slice n 0 len 0 a 0 ⟨a.block, a.off, 0⟩ (Map.add_same _ _ _) ⟨fun _ => rfl, hlen, fun h => absurd rfl h, fun s hs _ => by omega⟩, by simp⟩
  · have hpos := hcs (by omega)
    obtain ⟨v0, hv0⟩ : ∃ v, cs[0]? = some v := ⟨cs[0], by simp [hpos]⟩
    obtain ⟨w0, h00, _⟩ := hc 0 v0 hv0
    -- the block
    have hblk : ∃ arr elem fz, W.heap[a.block]? = some (.cells arr elem fz) ∧ a.spot = none := by
      unfold Addr.add at h00
      simp only [if_true] at h00
      unfold World.cell? at h00
      split at h00
      · rename_i c _ _ hh
        refine ⟨_, _, _, hh, ?_⟩
        cases hr : a.spot with
        | none => rfl
        | some x => simp [hr] at h00
      · cases h00
    obtain ⟨arr, elem, fz, hb, hr⟩ := hblk
    obtain ⟨ab, ao, ar⟩ := a
    simp only at hb hr
    subst hr
    have hcell : ∀ i v, cs[i]? = some v → ∃ v', arr[ao + i]? = some v' ∧ VR ρ v v' := by
      intro i v hi
      obtain ⟨v', this, hvr⟩ := hc i v hi
      have hadd : Addr.add ⟨ab, ao, none⟩ i = ⟨ab, ao + i, none⟩ := by
        unfold Addr.add
        split
        · rename_i h; subst h; rfl
        · rfl
      rw [hadd] at this
      unfold World.cell? at this
      simp only [hb] at this
      exact ⟨v', by simpa using this, hvr⟩
    have hsz : ao + cs.length ≤ arr.size := by
      obtain ⟨u, hu⟩ : ∃ u, cs[cs.length - 1]? = some u := ⟨cs[cs.length - 1], by simp [hpos]⟩
      obtain ⟨_, this, _⟩ := hcell _ _ hu
      have := (Array.getElem?_eq_some_iff.1 this).1
      omega
    exact ⟨_, _, e.add ⟨ab, ao, ao + cs.length⟩ (B := ⟨cs, .ro⟩) (not_mine_ro _) (fun _ => ⟨⟨arr, elem, fz, hb, fun h => absurd h (not_mine_ro _), hsz, fun i v hi => by
      obtain ⟨v', h1, h2⟩ := hcell i v hi
      exact ⟨v', h1, h2.mono (Map.add_le _ hn)⟩⟩, Nat.le_refl _, fun h => by cases h⟩), Map.add_le _ hn, .slice n 0 len cap _ cap _ (Map.add_same _ _ _) ⟨fun _ => rfl, hlen, fun _ => by simp, fun s hs _ => by omega⟩, by simp [h0]⟩

/-- What a cell holds: a number, or a row of numbers. -/
def cellK (r : Bool) : AK := if r = true then .flat 1 else .int

/-- An argument: one of the plain kinds, or a slice whose elements' cells are numbers and rows, of which the first so many are looked at. -/
inductive NK where
  | plain (k : AK)
  | nest (lay : List Bool) (lim : Nat)

def NK.size : NK → Nat
  | .plain _ => 1
  | .nest lay lim => lim * lay.length + 1

def NArgIs (h : H) : NK → Value → Prop
  | .plain k, v => ArgIs h k v
  | .nest lay lim, v => v = nsl ∨ ∃ (b len cap : Nat) (u : Nat → Value), v = sl b 0 len cap ∧ len ≤ cap ∧ cap < 9223372036854775808 ∧ (cap ≠ 0 → h.get b = some ⟨tab (min cap lim * lay.length) u, .ro⟩) ∧ ∀ c, c < min cap lim * lay.length → ArgIs h (cellK ((lay[c % lay.length]?).getD false)) (u c)

def NArgsAre (h : H) : List NK → List Value → Prop
  | [], [] => True
  | k :: ks, v :: vs => NArgIs h k v ∧ NArgsAre h ks vs
  | _, _ => False

def nestT (P : Program) (lay : List Bool) (e : TypeId) : Bool :=
  match P.underlying e with
  | some (.slice _) => decide (lay = [true]) && argT P (.flat 1) e
  | some (.struct fs) => decide (fs.size = lay.length) && (List.range lay.length).all fun i => match fs[i]?, lay[i]? with
    | some f, some r => decide (f.offset = i) && decide (P.cellsOf f.type = 1) && argT P (cellK r) f.type
    | _, _ => false
  | _ => false

def nargT (P : Program) : NK → TypeId → Bool
  | .plain k, t => argT P k t
  | .nest lay lim, t => match P.underlying t with
    | some (.slice e) => decide (0 < lay.length) && decide (0 < lim) && decide (P.cellsOf e = lay.length) && nestT P lay e
    | _ => false

def nargsT (P : Program) : List NK → List TypeId → Bool
  | [], [] => true
  | k :: ks, t :: ts => nargT P k t && nargsT P ks ts
  | _, _ => false

theorem ArgIs.keep' {h h' : H} {n : Nat} {k : AK} {v : Value} (f : ∀ b, n ≤ b → h.get b = none) (a : ArgIs h k v) (hk : ∀ b, b < n → h'.get b = h.get b) : ArgIs h' k v := by
  cases k with
  | int => exact a
  | bool => exact a
  | flat s =>
    rcases a with rfl | ⟨b, len, cap, Z, rfl, g1, g2, g3, g4⟩
    · exact Or.inl rfl
    · refine Or.inr ⟨b, len, cap, Z, rfl, g1, g2, fun h0 => ?_, g4⟩
      have hb := g3 h0
      have : b < n := by
        rcases Nat.lt_or_ge b n with g | g
        · exact g
        · rw [f b g] at hb; cases hb
      rw [hk b this]; exact hb

section
variable {H' : Type} {enc : TypeId × Value → H'} {P : Program} {W : World}

theorem cell_enter {G n : Nat} {ρ : Map} {h : H} (en : Entry G W n ρ h) {r : Bool} {t : TypeId} (hk : argT P (cellK r) t = true) {v : Value} {x : DataW H' × List MemPlace} {fuel : Nat} (hf : DataW.trod enc P W 0 (fun _ => true) true fuel t [v] = some x) :
    ∃ ρ' h' u, Entry G W (n + 1) ρ' h' ∧ Le ρ ρ' ∧ VR ρ' u v ∧ ArgIs h' (cellK r) u ∧ ∀ b, b < n → h'.get b = h.get b := by
  cases r with
  | false =>
    simp only [cellK, Bool.false_eq_true, if_false] at hk ⊢
    unfold argT at hk
    split at hk
    · rename_i hu
      obtain ⟨z, hz, _, hw⟩ := DataW.trod_int hu hf
      simp only [List.cons.injEq, and_true] at hz
      subst hz
      exact ⟨ρ, h, i64 z, en.more (by omega), Le.refl _, .int _ _, ⟨z, rfl, fit_of_wf hw⟩, fun _ _ => rfl⟩
    · rename_i h1 _; cases h1
    · rename_i h1 _; cases h1
    · cases hk
  | true =>
    simp only [cellK, if_true] at hk ⊢
    unfold argT at hk
    split at hk
    · rename_i h1 _; cases h1
    · rename_i h1 _; cases h1
    · rename_i s e h1 hu
      cases h1
      simp only [Bool.and_eq_true, decide_eq_true_eq] at hk
      obtain ⟨⟨hs0, hc⟩, he⟩ := hk
      rcases Go.Deep.open_slice hu hf with ⟨h0, _⟩ | ⟨a, len, cap, m, n', D, Pl, h0, _, hl, hm, hmm, _, hx⟩
      · simp only [List.cons.injEq, and_true] at h0
        subst h0
        exact ⟨ρ, h, nsl, en.more (by omega), Le.refl _, VR.nilslice, Or.inl rfl, fun _ _ => rfl⟩
      · simp only [List.cons.injEq, and_true] at h0
        subst h0
        simp only [if_true] at hmm
        subst hmm
        rw [hc] at hx
        have each : ∀ i, i < m * 1 → ∃ z : Int, W.cell? (a.add i) = some (i64 z) ∧ Fit z := by
          intro i hi
          obtain ⟨cs', h1, h2⟩ := hx i (by omega)
          obtain ⟨_, hlen, hcell⟩ := World.cells?_some h1
          obtain ⟨z, hz, hfz⟩ := elem_ints he hlen h2 0 (by omega)
          refine ⟨z, ?_, hfz⟩
          have := hcell 0 (by omega)
          rw [Addr.add_add, Nat.mul_one, Nat.add_zero] at this
          rw [this, hz]
        obtain ⟨Z, hZ⟩ := Go.Deep.choose_lt each
        have hcap : m < 9223372036854775808 := by unfold maxLen at hm; omega
        obtain ⟨ρ', h', q1, q2, q3, q4⟩ := en.sliceV a len m (tab (m * 1) fun i => i64 (if i < m * 1 then Z i else 0)) hl (by unfold U; omega) (fun h => by rw [tab_len]; omega)
          (fun i v hi => by
            have hlt : i < m * 1 := by
              have := (List.getElem?_eq_some_iff.1 hi).1
              rw [tab_len] at this; exact this
            rw [tab_get hlt, if_pos hlt] at hi
            cases hi
            exact ⟨_, (hZ i hlt).1, .int _ _⟩)
        refine ⟨ρ', h', _, q1, q2, q3, Or.inr ⟨n, len, m, fun i => if i < m * 1 then Z i else 0, rfl, hl, hcap, fun h0 => ?_, fun i => ?_⟩, fun b hb => ?_⟩
        · rw [q4, H.get_set_same, if_neg (by omega)]
        · dsimp only
          split
          · rename_i hi; exact (hZ i hi).2
          · unfold Fit; omega
        · rw [q4, H.get_set_ne _ _ (by omega)]
    · cases hk

/-- So many cells, one behind the other. -/
theorem cells_enter {G : Nat} {K : Nat → Bool} {V : Nat → Value} : ∀ (C n : Nat) (ρ : Map) (h : H), Entry G W n ρ h → (∀ c, c < C → ∃ t fuel, argT P (cellK (K c)) t = true ∧ ∃ x : DataW H' × List MemPlace, DataW.trod enc P W 0 (fun _ => true) true fuel t [V c] = some x) →
    ∃ ρ' h', ∃ u : Nat → Value, Entry G W (n + C) ρ' h' ∧ Le ρ ρ' ∧ (∀ c, c < C → VR ρ' (u c) (V c) ∧ ArgIs h' (cellK (K c)) (u c)) ∧ ∀ b, b < n → h'.get b = h.get b
  | 0, n, ρ, h, en, _ => ⟨ρ, h, fun _ => undef, en, Le.refl _, fun c hc => by omega, fun _ _ => rfl⟩
  | C + 1, n, ρ, h, en, hx => by
    obtain ⟨ρ1, h1, u, en1, le1, hu, k1⟩ := cells_enter C n ρ h en fun c hc => hx c (by omega)
    obtain ⟨t, fuel, ht, x, hf⟩ := hx C (by omega)
    obtain ⟨ρ2, h2, w, en2, le2, hw, aw, k2⟩ := cell_enter en1 ht hf
    refine ⟨ρ2, h2, fun c => if c = C then w else u c, en2, le1.trans le2, fun c hc => ?_, fun b hb => by rw [k2 b (by omega), k1 b hb]⟩
    by_cases e : c = C
    · subst e
      dsimp only
      rw [if_pos rfl]; exact ⟨hw, aw⟩
    · dsimp only
      rw [if_neg e]
      obtain ⟨q1, q2⟩ := hu c (by omega)
      exact ⟨q1.mono le2, q2.keep' en1.fresh k2⟩

/-- The cells of one element. -/
theorem elem_cells {lay : List Bool} {e : TypeId} {cs : List Value} {x : DataW H' × List MemPlace} {fuel : Nat} (ht : nestT P lay e = true) (hl : cs.length = lay.length) (h : DataW.trod enc P W 0 (fun _ => true) true fuel e cs = some x) :
    ∀ i, i < lay.length → ∃ v t fuel', cs[i]? = some v ∧ argT P (cellK ((lay[i]?).getD false)) t = true ∧ ∃ y : DataW H' × List MemPlace, DataW.trod enc P W 0 (fun _ => true) true fuel' t [v] = some y := by
  intro i hi
  unfold nestT at ht
  split at ht
  · simp only [Bool.and_eq_true, decide_eq_true_eq] at ht
    obtain ⟨rfl, ht⟩ := ht
    have h0 : i = 0 := by simp at hi; exact hi
    subst h0
    match cs, hl with
    | [v], _ => exact ⟨v, e, fuel, rfl, ht, x, h⟩
  · rename_i fs hu
    simp only [Bool.and_eq_true, decide_eq_true_eq, List.all_eq_true, List.mem_range] at ht
    obtain ⟨hs, hall⟩ := ht
    have hi' := hall i hi
    split at hi'
    · rename_i f r hf hr
      simp only [Bool.and_eq_true, decide_eq_true_eq] at hi'
      obtain ⟨⟨ho, hc⟩, ha⟩ := hi'
      obtain ⟨xs, n', _, _, _, hxl, hx⟩ := DataW.trod_struct hu h
      have := hx i f hf
      rw [ho, hc] at this
      obtain ⟨y, hy⟩ : ∃ y, xs[i]? = some y := ⟨xs[i]'(by omega), List.getElem?_eq_getElem _⟩
      rw [hy] at this
      obtain ⟨v, hv⟩ : ∃ v, cs[i]? = some v := ⟨cs[i]'(by omega), List.getElem?_eq_getElem _⟩
      have e1 : (cs.drop i).take 1 = [v] := by
        have hlt : i < cs.length := by omega
        rw [List.getElem?_eq_getElem hlt] at hv
        cases hv
        rw [List.drop_eq_getElem_cons hlt, List.take_succ_cons, List.take_zero]
      rw [e1] at this
      exact ⟨v, f.type, n', hv, by rw [hr]; exact ha, y, this⟩
    · cases hi'
  · cases ht

theorem narg_enter {G n : Nat} {ρ : Map} {h : H} (en : Entry G W n ρ h) {k : NK} {t : TypeId} (hk : nargT P k t = true) {v : Value} {d : DataW H'} {p : List MemPlace} {base : Nat} (hval : Value.okWide P W .any base t v) (hd : DataW.Trod enc P W 0 (fun _ => true) true t v d p) :
    ∃ ρ' h' u, Entry G W (n + k.size) ρ' h' ∧ Le ρ ρ' ∧ VW ρ' u v ∧ NArgIs h' k u ∧ ∀ b, b < n → h'.get b = h.get b := by
  cases k with
  | plain k => exact arg_enter en hk hval hd
  | nest lay lim =>
    unfold nargT at hk
    simp only at hk
    split at hk
    · rename_i e hu
      simp only [Bool.and_eq_true, decide_eq_true_eq] at hk
      obtain ⟨⟨⟨hs0, hlim⟩, hc⟩, he⟩ := hk
      obtain ⟨a0, len0, cap0, rfl⟩ := okWide_slice hu hval
      obtain ⟨fuel, hf⟩ := hd
      rcases Go.Deep.open_slice hu hf with ⟨h0, _⟩ | ⟨a, len, cap, m, n', D, Pl, h0, _, hl, hm, hmm, _, hx⟩
      · simp only [Value.cells] at h0
        cases h0
        exact ⟨ρ, h, nsl, en.more (by omega), Le.refl _, VR.nilslice.weak, Or.inl rfl, fun _ _ => rfl⟩
      · simp only [Value.cells] at h0
        cases h0
        simp only [if_true] at hmm
        subst hmm
        rw [hc] at hx
        have hcap : m < 9223372036854775808 := by unfold maxLen at hm; omega
        have hCle : min m lim * lay.length ≤ lim * lay.length := Nat.mul_le_mul_right _ (Nat.min_le_right _ _)
        -- each cell
        have each : ∀ c, c < min m lim * lay.length → ∃ v : Value, W.cell? (a.add c) = some v ∧ ∃ t fuel, argT P (cellK ((lay[c % lay.length]?).getD false)) t = true ∧ ∃ x : DataW H' × List MemPlace, DataW.trod enc P W 0 (fun _ => true) true fuel t [v] = some x := by
          intro c hcl
          have hq : c / lay.length < min m lim := (Nat.div_lt_iff_lt_mul hs0).2 hcl
          obtain ⟨cs', h1, h2⟩ := hx (c / lay.length) (by omega)
          obtain ⟨_, hlen, hcell⟩ := World.cells?_some h1
          have hr : c % lay.length < lay.length := Nat.mod_lt _ hs0
          obtain ⟨v, t, f', hv, hta, y, hy⟩ := elem_cells he hlen h2 (c % lay.length) hr
          refine ⟨v, ?_, t, f', hta, y, hy⟩
          rw [← hv, ← hcell _ hr]
          congr 1
          have hi' : c / lay.length * lay.length + c % lay.length = c := Nat.div_add_mod' c lay.length
          rw [Addr.add_add, hi']
        obtain ⟨V, hV⟩ := Go.Deep.choose_lt each
        obtain ⟨ρ1, h1, u, en1, le1, hu1, k1⟩ := cells_enter (enc := enc) (K := fun c => (lay[c % lay.length]?).getD false) (V := V) (min m lim * lay.length) n ρ h en fun c hc => (hV c hc).2
        obtain ⟨ρ2, h2, q1, q2, q3, q4⟩ := en1.sliceV a len0 m (tab (min m lim * lay.length) u) hl (by unfold U; omega) (fun h0 => by rw [tab_len]; exact Nat.mul_pos (by omega) hs0)
          (fun i v hi => by
            have hlt : i < min m lim * lay.length := by
              have := (List.getElem?_eq_some_iff.1 hi).1
              rw [tab_len] at this; exact this
            rw [tab_get hlt] at hi
            cases hi
            exact ⟨V i, (hV i hlt).1, (hu1 i hlt).1⟩)
        have kb : ∀ b, b < n + min m lim * lay.length → h2.get b = h1.get b := fun b hb => by rw [q4, H.get_set_ne _ _ (by omega)]
        refine ⟨ρ2, h2, _, q1.more (by show _ ≤ n + (lim * lay.length + 1); omega), le1.trans q2, q3.weak, Or.inr ⟨_, len0, m, u, rfl, hl, hcap, fun h0 => ?_, fun c hc => (hu1 c hc).2.keep' en1.fresh kb⟩, fun b hb => by rw [kb b (by omega), k1 b hb]⟩
        rw [q4, H.get_set_same, if_neg h0]
    · cases hk

theorem NArgIs.keep' {h h' : H} {n : Nat} {k : NK} {v : Value} (f : ∀ b, n ≤ b → h.get b = none) (a : NArgIs h k v) (hk : ∀ b, b < n → h'.get b = h.get b) : NArgIs h' k v := by
  cases k with
  | plain k => exact ArgIs.keep' f a hk
  | nest lay lim =>
    rcases a with rfl | ⟨b, len, cap, u, rfl, g1, g2, g3, g4⟩
    · exact Or.inl rfl
    · refine Or.inr ⟨b, len, cap, u, rfl, g1, g2, fun h0 => ?_, fun c hc => (g4 c hc).keep' f hk⟩
      have hb := g3 h0
      have : b < n := by
        rcases Nat.lt_or_ge b n with g | g
        · exact g
        · rw [f b g] at hb; cases hb
      rw [hk b this]; exact hb

def NK.sizes : List NK → Nat
  | [] => 0
  | k :: ks => k.size + NK.sizes ks

theorem nargs_enter {G : Nat} {base : Nat} : ∀ (ks : List NK) (ts : List TypeId) (vs : List Value) (ds : List (DataW H')) (p : List MemPlace) (n : Nat) (ρ : Map) (h : H), Entry G W n ρ h → nargsT P ks ts = true →
    (∀ (j : Nat) t v, ts[j]? = some t → vs[j]? = some v → Value.okWide P W .any base t v) → DataW.TrodAll enc P W 0 (fun _ => true) true ts vs ds p →
    ∃ ρ' h' us, Entry G W (n + NK.sizes ks) ρ' h' ∧ Le ρ ρ' ∧ WL ρ' us vs ∧ NArgsAre h' ks us ∧ ∀ b, b < n → h'.get b = h.get b
  | [], ts, vs, ds, p, n, ρ, h, en, hk, hval, hd => by
    cases ts with
    | cons _ _ => cases hk
    | nil =>
      obtain ⟨rfl, _, _⟩ := trodAll_nil hd
      exact ⟨ρ, h, [], en, Le.refl _, WL.nil, trivial, fun _ _ => rfl⟩
  | k :: ks, ts, vs, ds, p, n, ρ, h, en, hk, hval, hd => by
    cases ts with
    | nil => cases hk
    | cons t ts =>
      simp only [nargsT, Bool.and_eq_true] at hk
      obtain ⟨v, vs', d, ds', p1, q1, rfl, rfl, _, hd1, hd2⟩ := trodAll_cons hd
      obtain ⟨ρ1, h1, u, en1, le1, hv1, ha1, hk1⟩ := narg_enter en hk.1 (hval 0 t v rfl rfl) hd1
      obtain ⟨ρ2, h2, us, en2, le2, hv2, ha2, hk2⟩ := nargs_enter ks ts vs' ds' q1 (n + k.size) ρ1 h1 en1 hk.2 (fun j t v ht hv => hval (j + 1) t v (by simpa using ht) (by simpa using hv)) hd2
      refine ⟨ρ2, h2, u :: us, ?_, le1.trans le2, WL.cons (hv1.mono le2) hv2, ⟨ha1.keep' en1.fresh hk2, ha2⟩, fun b hb => by rw [hk2 b (by omega), hk1 b hb]⟩
      have : n + NK.sizes (k :: ks) = n + k.size + NK.sizes ks := by show n + (k.size + NK.sizes ks) = _; omega
      rw [this]; exact en2

/-- A law, out of what it comes to in the abstract machine. -/
theorem law_anyN {G g : Nat} {f : Func} {s : ChangeSpec} {apart fresh handsOn : Bool} {args : Array Value} {tb : TypeId} {ds gs : List (DataW H')} {before : List MemPlace} {m : List Value → M Value} {base : Nat}
    (hS : Sim P G g m) {n N : Nat} {ρ : Map} {h : H} (en : Entry G W n ρ h) {ks : List NK} (hks : nargsT P ks f.params.toList = true) (hN : n + NK.sizes ks ≤ N)
    (hm : ∀ (h' : H) (us : List Value), Fr N h' → (∀ b, b < n → h'.get b = h.get b) → NArgsAre h' ks us → ∃ n' h'', (m us).run N h' = some (.bool true, n', h''))
    (hval : ∀ (j : Nat) t v, f.params[j]? = some t → args[j]? = some v → Value.okWide P W .any base t v)
    (hW : DataW.Whole enc P f.params.toList s.vars apart W args.toList ds gs before) (hvars : s.vars = []) (hfn : ds.length = ks.length → s.fn H' (ds ++ []) = { results := [.lit (.bool true)], args := ds })
    (hres : f.resultTypes = #[tb]) (hb : P.underlying tb = some .bool)
    (K : Kids P (· < P.types.size)) (hfull : ∀ t e, t < P.types.size → P.underlying t = some (.slice e) → 0 < P.cellsOf e) (hts : (f.params.toList.all fun t => decide (t < P.types.size)) = true) :
    Calls P g args W fun e W' => ∃ v, e = .returned v ∧ s.post enc P f apart fresh handsOn false W args v W' := by
  have hW0 := hW
  obtain ⟨p, q, h1, h2, h3, _, _⟩ := hW
  obtain ⟨ρ', h', us, en', _, hws, ha, hkeep⟩ := nargs_enter ks f.params.toList args.toList ds p n ρ h en hks (fun j t v ht hv => hval j t v (by simpa using ht) (by simpa using hv)) h1
  rw [hvars] at h2
  have hgs : gs = [] := by
    cases gs with
    | nil => rfl
    | cons _ _ => cases h2
  subst hgs
  have hlen : ds.length = ks.length := by
    have e1 : ∀ {ts : List TypeId} {vs : List Value} {ds : List (DataW H')} {p : List MemPlace}, DataW.TrodAll enc P W 0 (fun _ => true) true ts vs ds p → ds.length = ts.length := by
      intro ts
      induction ts with
      | nil => intro vs ds p h; obtain ⟨_, rfl, _⟩ := trodAll_nil h; rfl
      | cons t ts ih =>
        intro vs ds p h
        obtain ⟨_, _, _, _, _, _, _, rfl, _, _, h'⟩ := trodAll_cons h
        simp [ih h']
    have e2 : ∀ (ks : List NK) (ts : List TypeId), nargsT P ks ts = true → ts.length = ks.length := by
      intro ks
      induction ks with
      | nil => intro ts h; cases ts with | nil => rfl | cons _ _ => cases h
      | cons k ks ih =>
        intro ts h
        cases ts with
        | nil => cases h
        | cons t ts => simp only [nargsT, Bool.and_eq_true] at h; simp [ih ts h.2]
    rw [e1 h1, e2 ks _ hks]
  obtain ⟨n', h'', e⟩ := hm h' us (fun b hb => en'.fresh b (by omega)) hkeep ha
  exact law_calls hS (en'.more hN) hws e hW0 hvars (hfn hlen) hres hb K hfull hts
end

end Go.Fw
