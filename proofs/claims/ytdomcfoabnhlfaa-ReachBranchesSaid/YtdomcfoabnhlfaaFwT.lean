/-
  A law's arguments, as the abstract machine has them.
-/
import Derived.Test.YtdomcfoabnhlfaaFwS
import Derived.Deep.Slices
import Derived.OpenShut
namespace Go.Fw
open Go.ChangeShapes Go.WideShapes

/-- What an argument is: a number, a bool, a slice of numbers or of arrays of so many. -/
inductive AK where
  | int
  | bool
  | flat (s : Nat)

def Fit (z : Int) : Prop := -9223372036854775808 ≤ z ∧ z ≤ 9223372036854775807

def ArgIs (h : H) : AK → Value → Prop
  | .int, v => ∃ z, v = i64 z ∧ Fit z
  | .bool, v => ∃ b, v = bo b
  | .flat s, v => v = nsl ∨ ∃ (b len cap : Nat) (Z : Nat → Int), v = sl b 0 len cap ∧ len ≤ cap ∧ cap < 9223372036854775808 ∧ (len ≠ 0 → h.get b = some ⟨tab (cap * s) fun i => i64 (Z i), .ro⟩) ∧ ∀ i, Fit (Z i)

def ArgsAre (h : H) : List AK → List Value → Prop
  | [], [] => True
  | k :: ks, v :: vs => ArgIs h k v ∧ ArgsAre h ks vs
  | _, _ => False

def argT (P : Program) (k : AK) (t : TypeId) : Bool :=
  match k, P.underlying t with
  | .int, some (.int .i64) => true
  | .bool, some .bool => true
  | .flat s, some (.slice e) => decide (0 < s) && decide (P.cellsOf e = s) && (match P.underlying e with
    | some (.int .i64) => decide (s = 1)
    | some (.array n e') => decide (n = s) && decide (P.cellsOf e' = 1) && (match P.underlying e' with | some (.int .i64) => true | _ => false)
    | _ => false)
  | _, _ => false

def argsT (P : Program) : List AK → List TypeId → Bool
  | [], [] => true
  | k :: ks, t :: ts => argT P k t && argsT P ks ts
  | _, _ => false

theorem fit_of_wf {z : Int} (h : (Lit.int .i64 z).wf = true) : Fit z := by
  have h1 : IntKind.i64.min = -9223372036854775808 := rfl
  have h2 : IntKind.i64.max = 9223372036854775807 := rfl
  simp only [Lit.wf, h1, h2, Bool.and_eq_true, decide_eq_true_eq] at h
  exact h

section
variable {H' : Type} {enc : TypeId × Value → H'} {P : Program} {W : World}

/-- The cells of an element: numbers all. -/
theorem elem_ints {n s : Nat} {e : TypeId} {cs : List Value} {x : DataW H' × List MemPlace} (ht : (match P.underlying e with
    | some (.int .i64) => decide (s = 1)
    | some (.array n e') => decide (n = s) && decide (P.cellsOf e' = 1) && (match P.underlying e' with | some (.int .i64) => true | _ => false)
    | _ => false) = true) (hl : cs.length = s) (h : DataW.trod enc P W 0 (fun _ => true) true n e cs = some x) : ∀ i, i < s → ∃ z, cs[i]? = some (i64 z) ∧ Fit z := by
  intro i hi
  split at ht
  · rename_i hu
    obtain ⟨z, rfl, _, hw⟩ := DataW.trod_int hu h
    simp only [decide_eq_true_eq] at ht
    obtain rfl : i = 0 := by omega
    exact ⟨z, rfl, fit_of_wf hw⟩
  · rename_i m e' hu
    simp only [Bool.and_eq_true, decide_eq_true_eq] at ht
    obtain ⟨⟨rfl, hc⟩, hu'⟩ := ht
    obtain ⟨xs, m', _, _, _, hxl, hx⟩ := DataW.trod_array hu h
    have := hx i hi
    rw [hc, Nat.mul_one] at this
    obtain ⟨y, hy⟩ : ∃ y, xs[i]? = some y := ⟨xs[i]'(by omega), by simp [hxl, hi]⟩
    rw [hy] at this
    split at hu'
    · rename_i hui
      obtain ⟨z, hz, _, hw⟩ := DataW.trod_int hui this
      refine ⟨z, ?_, fit_of_wf hw⟩
      have h0 : ((cs.drop i).take 1)[0]? = some (i64 z) := by rw [hz]; rfl
      simpa [List.getElem?_take, List.getElem?_drop] using h0
    · cases hu'
  · cases ht

theorem arg_enter {G n : Nat} {ρ : Map} {h : H} (en : Entry G W n ρ h) {k : AK} {t : TypeId} (hk : argT P k t = true) {v : Value} {d : DataW H'} {p : List MemPlace} {base : Nat} (hval : Value.okWide P W .any base t v) (hd : DataW.Trod enc P W 0 (fun _ => true) true t v d p) :
    ∃ ρ' h' u, Entry G W (n + 1) ρ' h' ∧ Le ρ ρ' ∧ VW ρ' u v ∧ ArgIs h' k u ∧ ∀ b, b < n → h'.get b = h.get b := by
  unfold argT at hk
  split at hk
  · rename_i hu
    obtain ⟨z, rfl, _, _, hw⟩ := open_int hu hval hd
    exact ⟨ρ, h, i64 z, en.more (by omega), Le.refl _, (VR.int _ _).weak, ⟨z, rfl, fit_of_wf hw⟩, fun _ _ => rfl⟩
  · rename_i hu
    obtain ⟨b, rfl⟩ : ∃ b, v = .bool b := by
      obtain ⟨b, hb, _⟩ := Go.RowKit.open_bool hu hval hd
      exact ⟨b, hb⟩
    exact ⟨ρ, h, bo b, en.more (by omega), Le.refl _, (VR.bool _).weak, ⟨b, rfl⟩, fun _ _ => rfl⟩
  · rename_i s e hu
    simp only [Bool.and_eq_true, decide_eq_true_eq] at hk
    obtain ⟨⟨hs0, hc⟩, he⟩ := hk
    obtain ⟨a0, len0, cap0, rfl⟩ := okWide_slice hu hval
    obtain ⟨fuel, hf⟩ := hd
    rcases Go.Deep.open_slice hu hf with ⟨h0, _⟩ | ⟨a, len, cap, m, n', D, Pl, h0, _, hl, hm, hmm, _, hx⟩
    · simp only [Value.cells] at h0
      cases h0
      exact ⟨ρ, h, nsl, en.more (by omega), Le.refl _, VR.nilslice.weak, Or.inl rfl, fun _ _ => rfl⟩
    · simp only [Value.cells] at h0
      cases h0
      simp only [if_true] at hmm
      subst hmm
      rw [hc] at hx
      -- each cell's number
      have each : ∀ i, i < m * s → ∃ z : Int, W.cell? (a.add i) = some (i64 z) ∧ Fit z := by
        intro i hi
        have hq : i / s < m := (Nat.div_lt_iff_lt_mul hs0).2 hi
        obtain ⟨cs', h1, h2⟩ := hx (i / s) hq
        obtain ⟨_, hlen, hcell⟩ := World.cells?_some h1
        have hr : i % s < s := Nat.mod_lt _ hs0
        obtain ⟨z, hz, hfz⟩ := elem_ints he hlen h2 (i % s) hr
        refine ⟨z, ?_, hfz⟩
        rw [← hz, ← hcell _ hr]
        congr 1
        have hi' : i / s * s + i % s = i := Nat.div_add_mod' i s
        rw [Addr.add_add, hi']
      obtain ⟨Z, hZ⟩ := Go.Deep.choose_lt each
      have hcap : m < 9223372036854775808 := by unfold maxLen at hm; omega
      obtain ⟨ρ', h', q1, q2, q3, q4⟩ := en.slice a len0 m (tab (m * s) fun i => i64 (if i < m * s then Z i else 0)) hl (by unfold U; omega) (fun h => by rw [tab_len]; exact Nat.mul_pos h hs0)
        (fun i v hi => by
          have hlt : i < m * s := by
            have := (List.getElem?_eq_some_iff.1 hi).1
            rw [tab_len] at this; exact this
          rw [tab_get hlt, if_pos hlt] at hi
          cases hi
          exact (hZ i hlt).1)
        (fun v hv => by
          simp only [tab, List.mem_map] at hv
          obtain ⟨i, _, rfl⟩ := hv
          exact .int _ _)
      refine ⟨ρ', h', _, q1, q2, q3, Or.inr ⟨n, len0, m, fun i => if i < m * s then Z i else 0, rfl, hl, hcap, fun h0 => ?_, fun i => ?_⟩, fun b hb => ?_⟩
      · rw [q4, H.get_set_same, if_neg (show ¬ m = 0 by omega), if_neg (show ¬ m = 0 by omega)]
      · dsimp only
        split
        · rename_i hi; exact (hZ i hi).2
        · unfold Fit; omega
      · rw [q4, H.get_set_ne _ _ (by omega)]
  · cases hk
/-- All arguments. -/
theorem args_enter {G : Nat} {base : Nat} : ∀ (ks : List AK) (ts : List TypeId) (vs : List Value) (ds : List (DataW H')) (p : List MemPlace) (n : Nat) (ρ : Map) (h : H), Entry G W n ρ h → argsT P ks ts = true →
    (∀ (j : Nat) t v, ts[j]? = some t → vs[j]? = some v → Value.okWide P W .any base t v) → DataW.TrodAll enc P W 0 (fun _ => true) true ts vs ds p →
    ∃ ρ' h' us, Entry G W (n + ks.length) ρ' h' ∧ Le ρ ρ' ∧ WL ρ' us vs ∧ ArgsAre h' ks us ∧ ∀ b, b < n → h'.get b = h.get b
  | [], ts, vs, ds, p, n, ρ, h, en, hk, hval, hd => by
    cases ts with
    | cons _ _ => cases hk
    | nil =>
      obtain ⟨rfl, _, _⟩ := trodAll_nil hd
      exact ⟨ρ, h, [], en, Le.refl _, WL.nil, trivial, fun _ _ => rfl⟩
  | k :: ks, ts, vs, ds, p, n, ρ, h, en, hk, hval, hd => by
    cases ts with
    | nil => cases hk
    | cons t ts =>
      simp only [argsT, Bool.and_eq_true] at hk
      obtain ⟨v, vs', d, ds', p1, q1, rfl, rfl, _, hd1, hd2⟩ := trodAll_cons hd
      obtain ⟨ρ1, h1, u, en1, le1, hv1, ha1, hk1⟩ := arg_enter en hk.1 (hval 0 t v rfl rfl) hd1
      obtain ⟨ρ2, h2, us, en2, le2, hv2, ha2, hk2⟩ := args_enter ks ts vs' ds' q1 (n + 1) ρ1 h1 en1 hk.2 (fun j t v ht hv => hval (j + 1) t v (by simpa using ht) (by simpa using hv)) hd2
      refine ⟨ρ2, h2, u :: us, ?_, le1.trans le2, WL.cons (hv1.mono le2) hv2, ⟨?_, ha2⟩, fun b hb => by rw [hk2 b (by omega), hk1 b hb]⟩
      · have : n + (k :: ks).length = n + 1 + ks.length := by simp; omega
        rw [this]; exact en2
      · -- what the first is, is so behind the others
        cases k with
        | int => exact ha1
        | bool => exact ha1
        | flat s =>
          rcases ha1 with rfl | ⟨b, len, cap, Z, rfl, g1, g2, g3, g4⟩
          · exact Or.inl rfl
          · refine Or.inr ⟨b, len, cap, Z, rfl, g1, g2, fun h0 => ?_, g4⟩
            have hb := g3 h0
            have : b < n + 1 := by
              rcases Nat.lt_or_ge b (n + 1) with g | g
              · exact g
              · rw [en1.fresh b g] at hb; cases hb
            rw [hk2 b this]; exact hb

/-- A law, out of what it comes to in the abstract machine. -/
theorem law_any {G g : Nat} {f : Func} {s : ChangeSpec} {apart fresh handsOn : Bool} {args : Array Value} {tb : TypeId} {ds gs : List (DataW H')} {before : List MemPlace} {m : List Value → M Value} {base : Nat}
    (hS : Sim P G g m) {n N : Nat} {ρ : Map} {h : H} (en : Entry G W n ρ h) {ks : List AK} (hks : argsT P ks f.params.toList = true) (hN : n + ks.length ≤ N)
    (hm : ∀ (h' : H) (us : List Value), Fr N h' → (∀ b, b < n → h'.get b = h.get b) → ArgsAre h' ks us → ∃ n' h'', (m us).run N h' = some (.bool true, n', h''))
    (hval : ∀ (j : Nat) t v, f.params[j]? = some t → args[j]? = some v → Value.okWide P W .any base t v)
    (hW : DataW.Whole enc P f.params.toList s.vars apart W args.toList ds gs before) (hvars : s.vars = []) (hfn : ds.length = ks.length → s.fn H' (ds ++ []) = { results := [.lit (.bool true)], args := ds })
    (hres : f.resultTypes = #[tb]) (hb : P.underlying tb = some .bool)
    (K : Kids P (· < P.types.size)) (hfull : ∀ t e, t < P.types.size → P.underlying t = some (.slice e) → 0 < P.cellsOf e) (hts : (f.params.toList.all fun t => decide (t < P.types.size)) = true) :
    Calls P g args W fun e W' => ∃ v, e = .returned v ∧ s.post enc P f apart fresh handsOn false W args v W' := by
  have hW0 := hW
  obtain ⟨p, q, h1, h2, h3, _, _⟩ := hW
  obtain ⟨ρ', h', us, en', _, hws, ha, hkeep⟩ := args_enter ks f.params.toList args.toList ds p n ρ h en hks (fun j t v ht hv => hval j t v (by simpa using ht) (by simpa using hv)) h1
  rw [hvars] at h2
  have hgs : gs = [] := by
    cases gs with
    | nil => rfl
    | cons _ _ => cases h2
  subst hgs
  have hlen : ds.length = ks.length := by
    have e1 : ∀ {ts : List TypeId} {vs : List Value} {ds : List (DataW H')} {p : List MemPlace}, DataW.TrodAll enc P W 0 (fun _ => true) true ts vs ds p → ds.length = ts.length := by
      intro ts
      induction ts with
      | nil => intro vs ds p h; obtain ⟨_, rfl, _⟩ := trodAll_nil h; rfl
      | cons t ts ih =>
        intro vs ds p h
        obtain ⟨_, _, _, _, _, _, _, rfl, _, _, h'⟩ := trodAll_cons h
        simp [ih h']
    have e2 : ∀ (ks : List AK) (ts : List TypeId), argsT P ks ts = true → ts.length = ks.length := by
      intro ks
      induction ks with
      | nil => intro ts h; cases ts with | nil => rfl | cons _ _ => cases h
      | cons k ks ih =>
        intro ts h
        cases ts with
        | nil => cases h
        | cons t ts => simp only [argsT, Bool.and_eq_true] at h; simp [ih ts h.2]
    rw [e1 h1, e2 ks _ hks]
  obtain ⟨n', h'', e⟩ := hm h' us (fun b hb => en'.fresh b (by omega)) hkeep ha
  exact law_calls hS (en'.more hN) hws e hW0 hvars (hfn hlen) hres hb K hfull hts

end

theorem args1 {h : H} {k0 : AK} {us : List Value} (ha : ArgsAre h [k0] us) : ∃ v0, us = [v0] ∧ ArgIs h k0 v0 := by
  cases us with
  | nil => cases ha
  | cons v us =>
    obtain ⟨h1, h2⟩ := ha
    cases us with
    | nil => exact ⟨v, rfl, h1⟩
    | cons _ _ => cases h2

theorem args2 {h : H} {k0 k1 : AK} {us : List Value} (ha : ArgsAre h [k0, k1] us) : ∃ v0 v1, us = [v0, v1] ∧ ArgIs h k0 v0 ∧ ArgIs h k1 v1 := by
  cases us with
  | nil => cases ha
  | cons v us =>
    obtain ⟨h1, h2⟩ := ha
    obtain ⟨v1, rfl, h3⟩ := args1 h2
    exact ⟨v, v1, rfl, h1, h3⟩

theorem args3 {h : H} {k0 k1 k2 : AK} {us : List Value} (ha : ArgsAre h [k0, k1, k2] us) : ∃ v0 v1 v2, us = [v0, v1, v2] ∧ ArgIs h k0 v0 ∧ ArgIs h k1 v1 ∧ ArgIs h k2 v2 := by
  cases us with
  | nil => cases ha
  | cons v us =>
    obtain ⟨h1, h2⟩ := ha
    obtain ⟨v1, v2, rfl, h3⟩ := args2 h2
    exact ⟨v, v1, v2, rfl, h1, h3⟩

theorem args4 {h : H} {k0 k1 k2 k3 : AK} {us : List Value} (ha : ArgsAre h [k0, k1, k2, k3] us) : ∃ v0 v1 v2 v3, us = [v0, v1, v2, v3] ∧ ArgIs h k0 v0 ∧ ArgIs h k1 v1 ∧ ArgIs h k2 v2 ∧ ArgIs h k3 v3 := by
  cases us with
  | nil => cases ha
  | cons v us =>
    obtain ⟨h1, h2⟩ := ha
    obtain ⟨v1, v2, v3, rfl, h3⟩ := args3 h2
    exact ⟨v, v1, v2, v3, rfl, h1, h3⟩

theorem args5 {h : H} {k0 k1 k2 k3 k4 : AK} {us : List Value} (ha : ArgsAre h [k0, k1, k2, k3, k4] us) : ∃ v0 v1 v2 v3 v4, us = [v0, v1, v2, v3, v4] ∧ ArgIs h k0 v0 ∧ ArgIs h k1 v1 ∧ ArgIs h k2 v2 ∧ ArgIs h k3 v3 ∧ ArgIs h k4 v4 := by
  cases us with
  | nil => cases ha
  | cons v us =>
    obtain ⟨h1, h2⟩ := ha
    obtain ⟨v1, v2, v3, v4, rfl, h3⟩ := args4 h2
    exact ⟨v, v1, v2, v3, v4, rfl, h1, h3⟩

/-! ## Pairs of numbers that came in -/

def Pairs (h : H) (v : Value) (len : Nat) (Z : Nat → Int) : Prop :=
  (len = 0 ∧ v = nsl) ∨ ∃ b cap, v = sl b 0 len cap ∧ len ≤ cap ∧ cap < 9223372036854775808 ∧ (len ≠ 0 → b < 8 ∧ h.get b = some ⟨tab (cap * 2) fun i => i64 (Z i), .ro⟩)

theorem ArgIs.pairs {h : H} {v : Value} (f : Fr 8 h) (a : ArgIs h (.flat 2) v) : ∃ len Z, Pairs h v len Z ∧ len < 9223372036854775808 ∧ ∀ i, Fit (Z i) := by
  rcases a with rfl | ⟨b, len, cap, Z, rfl, g1, g2, g3, g4⟩
  · exact ⟨0, fun _ => 0, .inl ⟨rfl, rfl⟩, by omega, fun _ => by unfold Fit; dsimp only; omega⟩
  · exact ⟨len, Z, .inr ⟨b, cap, rfl, g1, g2, fun h0 => ⟨f.lt (g3 h0), g3 h0⟩⟩, by omega, g4⟩

theorem Pairs.keep {h h' : H} {v : Value} {len : Nat} {Z : Nat → Int} (w : Pairs h v len Z) (hk : ∀ c, c < 8 → h'.get c = h.get c) : Pairs h' v len Z := by
  rcases w with w | ⟨b, cap, rfl, g1, g2, g3⟩
  · exact .inl w
  · exact .inr ⟨b, cap, rfl, g1, g2, fun h0 => ⟨(g3 h0).1, by rw [hk _ (g3 h0).1]; exact (g3 h0).2⟩⟩
theorem Pairs.len {β : Type} {h : H} {v : Value} {len : Nat} {Z : Nat → Int} (w : Pairs h v len Z) {k : Value → M β} : bnd (opLen v) k = k (i64 len) := by
  rcases w with ⟨rfl, rfl⟩ | ⟨b, cap, rfl, _⟩ <;> rfl
theorem Pairs.at_ {β : Type} {h : H} {v : Value} {len : Nat} {Z : Nat → Int} (w : Pairs h v len Z) {i : Nat} (hi : i < len) :
    ∃ b, (∀ k : Value → M β, bnd (opIndexAddr 2 v (i64 i)) k = k (pt b (i * 2))) ∧ ∃ cap, i * 2 + 1 < cap * 2 ∧ h.get b = some ⟨tab (cap * 2) fun i => i64 (Z i), .ro⟩ ∧ b < 8 := by
  rcases w with ⟨rfl, _⟩ | ⟨b, cap, rfl, g1, _, g3⟩
  · omega
  · refine ⟨b, fun k => ?_, cap, by omega, (g3 (by omega)).2, (g3 (by omega)).1⟩
    rw [st_ix, if_pos (by omega), Int.toNat_natCast, Nat.zero_add]

end Go.Fw
