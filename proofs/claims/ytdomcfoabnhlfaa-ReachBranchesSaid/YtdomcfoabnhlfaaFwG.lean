/-
  What each operation of the abstract machine does in a world that the heap speaks of: slices, what is made, appends.
-/
import Derived.Test.YtdomcfoabnhlfaaFwF
namespace Go.Fw

/-- What comes of a slice of a slice. -/
def Cut (size : Nat) (a : Option Addr) (len cap : Nat) (l h : Int) (mx : Option Int) (v : Value) : Prop :=
  (∃ b o, a = some ⟨b, o, none⟩ ∧ ∃ c, v = .slice (some ⟨b, o + l.toNat * size, none⟩) (h - l).toNat c ∧
    ((mx = none ∧ cap = U + size ∧ c = cap) ∨ (mx = none ∧ cap < U ∧ c = cap - l.toNat) ∨ ∃ m, mx = some m ∧ (cap = U + size ∨ cap < U) ∧ c = (m - l).toNat)) ∨
  (a = none ∧ v = .slice none 0 0)

theorem opSlice_some {size : Nat} {x : Value} {lo hi mx : Option Value} {n : Nat} {h : H} {v : Value} {n' : Nat} {h' : H} (e : opSlice size x lo hi mx n h = some (v, n', h')) :
    n' = n ∧ h' = h ∧ ∃ a len cap l k, x = .slice a len cap ∧ lo.elim (some 0) bound = some l ∧ hi.elim (some (len : Int)) bound = some k ∧ 0 ≤ l ∧ l ≤ k ∧
      ((mx = none ∧ k ≤ (len : Int) ∧ Cut size a len cap l k none v) ∨
       ∃ mv m, mx = some mv ∧ bound mv = some m ∧ hi.isSome = true ∧ k ≤ m ∧ m ≤ (len : Int) ∧ m ≤ 1099511627776 ∧ Cut size a len cap l k (some m) v) := by
  obtain ⟨q, hq⟩ : ∃ q, q = opSlice size x lo hi mx := ⟨_, rfl⟩
  rw [← hq] at e
  unfold opSlice at hq
  split at hq
  · rename_i a len cap
    split at hq
    · rename_i l k m hl hk hm
      split at hq
      · rename_i h0
        split at hq
        · split at hq
          · rename_i hle
            split at hq
            · split at hq
              · subst hq; obtain ⟨rfl, rfl, rfl⟩ := ret_some e
                exact ⟨rfl, rfl, _, _, _, l, k, rfl, hl, hk, h0.1, h0.2, .inl ⟨rfl, hle, .inl ⟨_, _, rfl, _, rfl, .inl ⟨rfl, by assumption, rfl⟩⟩⟩⟩
              · subst hq; cases e
            · split at hq
              · split at hq
                · subst hq; obtain ⟨rfl, rfl, rfl⟩ := ret_some e
                  exact ⟨rfl, rfl, _, _, _, l, k, rfl, hl, hk, h0.1, h0.2, .inl ⟨rfl, hle, .inl ⟨_, _, rfl, _, rfl, .inr (.inl ⟨rfl, by assumption, rfl⟩)⟩⟩⟩
                · subst hq; obtain ⟨rfl, rfl, rfl⟩ := ret_some e
                  exact ⟨rfl, rfl, _, _, _, l, k, rfl, hl, hk, h0.1, h0.2, .inl ⟨rfl, hle, .inr ⟨rfl, rfl⟩⟩⟩
                · subst hq; cases e
              · subst hq; cases e
          · subst hq; cases e
        · rename_i mv
          split at hq
          · rename_i hle
            split at hq
            · split at hq
              · subst hq; obtain ⟨rfl, rfl, rfl⟩ := ret_some e
                exact ⟨rfl, rfl, _, _, _, l, k, rfl, hl, hk, h0.1, h0.2, .inr ⟨mv, m, rfl, hm, hle.1, hle.2.1, hle.2.2.1, hle.2.2.2, .inl ⟨_, _, rfl, _, rfl, .inr (.inr ⟨m, rfl, by assumption, rfl⟩)⟩⟩⟩
              · subst hq; cases e
            · subst hq; obtain ⟨rfl, rfl, rfl⟩ := ret_some e
              exact ⟨rfl, rfl, _, _, _, l, k, rfl, hl, hk, h0.1, h0.2, .inr ⟨mv, m, rfl, hm, hle.1, hle.2.1, hle.2.2.1, hle.2.2.2, .inr ⟨rfl, rfl⟩⟩⟩
            · subst hq; cases e
          · subst hq; cases e
      · subst hq; cases e
    · subst hq; cases e
  · subst hq; cases e

theorem bound_some {x : Value} {i : Int} (e : bound x = some i) : ∃ k, x = .int k i := by
  unfold bound at e
  split at e
  · cases e; exact ⟨_, rfl⟩
  · cases e

section
variable {P : Program} {G : Nat} {ρ : Map} {h : H} {w : World} {N : Nat} {Γ : List (Nat × Value)} {a : Act} {E : Env} {n n' : Nat} {h' : H} {v : Value} {o : Oper}

theorem run_sliceBound (k : IntKind) {i : Int} (h0 : 0 ≤ i) {y : Nat} (h1 : i ≤ (y : Int)) (c : BoundsCode) : (Instr.sliceBound (.int k i) y c).run P w = .ok i.toNat w := by
  simp [Instr.sliceBound, asIntOf, h0, h1]

/-- An operand that may be left out, as it stands in the world. -/
theorem opt_bound (r : R G ρ h w) (l : Live ρ N Γ a) (x : Option Operand) (d i : Int) (e : (x.map (ev G Γ)).elim (some d) bound = some i) : (x.map a.eval = none ∧ i = d) ∨ ∃ k, x.map a.eval = some (.int k i) := by
  cases x with
  | none => left; simp at e; exact ⟨rfl, e.symm⟩
  | some y =>
    right
    simp at e
    obtain ⟨k, hk⟩ := bound_some e
    have hy := ev_sim r l y
    rw [hk] at hy
    exact ⟨k, by simp [hy.int_inv]⟩

theorem run_sliceBounds {len cap : Nat} {lo hi mx : Option Value} {l k : Int} {m : Nat} (hl : (lo = none ∧ l = 0) ∨ ∃ q, lo = some (.int q l)) (hk : (hi = none ∧ k = len) ∨ ∃ q, hi = some (.int q k)) (h0 : 0 ≤ l) (h1 : l ≤ k)
    (hm : (mx = none ∧ m = cap ∧ k ≤ (cap : Int)) ∨ ∃ q, mx = some (.int q m) ∧ hi.isSome = true ∧ k ≤ (m : Int) ∧ m ≤ cap) :
    (Instr.sliceBounds true len cap lo hi mx).run P w = .ok (l.toNat, k.toNat, m) w := by
  have hk0 : 0 ≤ k := by omega
  rcases hm with ⟨rfl, rfl, hkc⟩ | ⟨q, rfl, hs, hkm, hmc⟩
  · rcases hk with ⟨rfl, rfl⟩ | ⟨qk, rfl⟩
    · rcases hl with ⟨rfl, rfl⟩ | ⟨ql, rfl⟩
      · simp [Instr.sliceBounds]
      · have := run_sliceBound (P := P) (w := w) ql h0 (y := len) (by omega) .sliceB
        simp [Instr.sliceBounds, this]
    · have hb := run_sliceBound (P := P) (w := w) qk hk0 hkc .sliceAcap
      rcases hl with ⟨rfl, rfl⟩ | ⟨ql, rfl⟩
      · simp [Instr.sliceBounds, hb]
      · have := run_sliceBound (P := P) (w := w) ql h0 (y := k.toNat) (by omega) .sliceB
        simp [Instr.sliceBounds, hb, this]
  · have hb0 := run_sliceBound (P := P) (w := w) q (i := (m : Int)) (by omega) (y := cap) (by omega) .slice3Acap
    rcases hk with ⟨rfl, rfl⟩ | ⟨qk, rfl⟩
    · simp at hs
    · have hb := run_sliceBound (P := P) (w := w) qk hk0 (y := m) hkm .slice3B
      rcases hl with ⟨rfl, rfl⟩ | ⟨ql, rfl⟩
      · simp [Instr.sliceBounds, hb0, hb]
      · have := run_sliceBound (P := P) (w := w) ql h0 (y := k.toNat) (by omega) .slice3C
        simp [Instr.sliceBounds, hb0, hb, this]

theorem SL.cut {L : Loc} {o len cap : Nat} {a' : Addr} {cap' : Nat} (s : SL L o len cap a' cap') (size l k c m : Nat) (hl : l ≤ k) (hk : k ≤ len)
    (hm : (m = cap' ∧ ((cap = U + size ∧ c = cap) ∨ (cap < U ∧ c = cap - l))) ∨ (k ≤ m ∧ m ≤ len ∧ c = m - l ∧ m < U)) :
    SL L (o + l * size) (k - l) c (if m = l then a' else a'.add (l * size)) (m - l) := by
  have hle := s.le
  have hmc : m ≤ cap' := by rcases hm with ⟨h, _⟩ | ⟨_, h, _⟩ <;> omega
  refine ⟨fun hc => ?_, ?_, fun hne => ?_, fun sz hc hne => ?_⟩
  · rcases hm with ⟨rfl, ⟨h1, h2⟩ | ⟨h1, h2⟩⟩ | ⟨_, _, h, _⟩
    · omega
    · have := s.known h1; omega
    · omega
  · rcases hm with ⟨rfl, _⟩ | ⟨_, _, _, _⟩ <;> omega
  · rw [if_neg (by omega), s.at_ (by omega), addr_add, Nat.add_assoc]
  · rcases hm with ⟨rfl, ⟨h1, h2⟩ | ⟨h1, h2⟩⟩ | ⟨_, _, h, _⟩
    · have hs : sz = size := by omega
      subst hs
      have := s.lim sz h1 (by omega)
      rw [Nat.sub_mul]
      have : l * sz ≤ m * sz := Nat.mul_le_mul_right _ (by omega)
      omega
    · omega
    · omega

theorem opt_ite (c : Prop) [Decidable c] (x : Addr) (f : Addr → Addr) : (if c then some x else (some x).map f) = some (if c then x else f x) := by split <;> rfl

theorem sim_slice (r : R G ρ h w) (l : Live ρ N Γ a) {t : TypeId} {x : Operand} {lo hi mx : Option Operand} (ho : o.op = .slice t x lo hi mx) (e : aop P G E Γ o.op n h = some (v, n', h')) : Does P G o a w ρ h v h' := by
  rw [ho] at e
  simp only [aop] at e
  have hx := ev_sim r l x
  cases hu : P.underlying t with
  | none => simp only [hu] at e; cases e
  | some d =>
  cases d <;> simp only [hu] at e <;> try (cases e; done)
  rename_i el
  cases hi' : P.info? el with
  | none => simp only [hi'] at e; cases e
  | some inf =>
  simp only [hi'] at e
  obtain ⟨rfl, rfl, p, len, cap, lv, k, hp, hl, hk, h0, h1, hm⟩ := opSlice_some e
  rw [hp] at hx
  have hl' := opt_bound r l lo 0 lv hl
  have hk' := opt_bound r l hi len k hk
  -- the slice itself, in the world
  have hrun : ∀ (pa : Option Addr) (cap' m : Nat), a.eval x = .slice pa len cap' → ((mx.map a.eval = none ∧ m = cap' ∧ k ≤ (cap' : Int)) ∨ ∃ q, mx.map a.eval = some (.int q m) ∧ (hi.map a.eval).isSome = true ∧ k ≤ (m : Int) ∧ m ≤ cap') →
      (execOp a.eval o).run P w = .ok (.value (.slice (if m = lv.toNat then pa else pa.map (·.add (lv.toNat * inf.size))) (k.toNat - lv.toNat) (m - lv.toNat))) w := by
    intro pa cap' m hxe hmm
    have hb := run_sliceBounds (P := P) (w := w) hl' hk' h0 h1 hmm
    simp [execOp, ho, Instr.sliceAt, run_underlying hu, Instr.slice, hxe, hb, sizeOf, typeInfo, hi']
  have hkl : (k - lv).toNat = k.toNat - lv.toNat := by omega
  rcases hm with ⟨hmx, hkle, hcut⟩ | ⟨mv, m, hmx, hmv, hhi, hkm, hml, hmb, hcut⟩
  · have hmn : mx.map a.eval = none := by cases mx <;> simp_all
    rcases hcut with ⟨b, ob, hpa, c, rfl, hc⟩ | ⟨hpa, rfl⟩
    · subst hpa
      obtain ⟨_, _, L, a', cap', hxe, hL, hx', hs⟩ := hx.slice_inv
      cases hxe
      have hle := hs.le
      refine .same r (hrun _ cap' cap' hx' (.inl ⟨hmn, rfl, by omega⟩)) (VR.weak ?_)
      have hcut := hs.cut inf.size lv.toNat k.toNat c cap' (by omega) (by omega) (.inl ⟨rfl, by
        rcases hc with ⟨_, h2, h3⟩ | ⟨_, h2, h3⟩ | ⟨m, hm, _⟩
        · exact .inl ⟨h2, h3⟩
        · exact .inr ⟨h2, h3⟩
        · cases hm⟩)
      rw [hkl]
      rw [opt_ite]
      exact VR.slice b _ _ c _ _ L hL hcut
    · subst hpa
      obtain ⟨rfl, rfl, hx'⟩ := hx.nilslice_inv
      have hk0 : k = 0 := by omega
      have hl0 : lv = 0 := by omega
      subst hk0 hl0
      refine .same r (hrun none 0 0 hx' (.inl ⟨hmn, rfl, by omega⟩)) ?_
      simp only [Int.toNat_zero, Nat.zero_mul, if_true, Nat.sub_self]
      exact VR.nilslice.weak
  · obtain ⟨mo, hmo, hmo'⟩ : ∃ mo, mx = some mo ∧ ev G Γ mo = mv := by
      cases mx with
      | none => simp at hmx
      | some mo => exact ⟨mo, rfl, by simpa using hmx⟩
    subst hmo
    obtain ⟨q, hq⟩ := bound_some hmv
    have hmr := ev_sim r l mo
    rw [hmo', hq] at hmr
    have hm0 : 0 ≤ m := by omega
    obtain ⟨mn, rfl⟩ := Int.eq_ofNat_of_zero_le hm0
    have hhi' : (hi.map a.eval).isSome = true := by cases hi <;> simp_all
    have hmx' : (some mo).map a.eval = some (.int q (mn : Int)) := by simp [hmr.int_inv]
    rcases hcut with ⟨b, ob, hpa, c, rfl, hc⟩ | ⟨hpa, rfl⟩
    · subst hpa
      obtain ⟨_, _, L, a', cap', hxe, hL, hx', hs⟩ := hx.slice_inv
      cases hxe
      have hle := hs.le
      refine .same r (hrun _ cap' mn hx' (.inr ⟨q, hmx', hhi', hkm, by omega⟩)) (VR.weak ?_)
      have hcut := hs.cut inf.size lv.toNat k.toNat c mn (by omega) (by omega) (.inr ⟨by omega, by omega, by
        rcases hc with ⟨h, _⟩ | ⟨h, _⟩ | ⟨m', hm', _, h⟩
        · cases h
        · cases h
        · cases hm'; omega, by unfold U; omega⟩)
      rw [hkl]
      rw [opt_ite]
      exact VR.slice b _ _ c _ _ L hL hcut
    · subst hpa
      obtain ⟨rfl, rfl, hx'⟩ := hx.nilslice_inv
      have hk0 : k = 0 := by omega
      have hl0 : lv = 0 := by omega
      have hmn0 : mn = 0 := by omega
      subst hk0 hl0 hmn0
      refine .same r (hrun none 0 0 hx' (.inr ⟨q, hmx', hhi', hkm, by omega⟩)) ?_
      simp only [Int.toNat_zero, Nat.zero_mul, if_true, Nat.sub_self]
      exact VR.nilslice.weak
end
end Go.Fw
