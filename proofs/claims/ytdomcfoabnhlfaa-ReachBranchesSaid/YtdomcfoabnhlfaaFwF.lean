/-
  What each operation of the abstract machine does in a world that the heap speaks of: tests and arithmetic, slices, appends, what is made.
-/
import Derived.Test.YtdomcfoabnhlfaaFwE
namespace Go.Fw

section
variable {P : Program} {G : Nat} {ρ : Map} {h : H} {w : World} {N : Nat} {Γ : List (Nat × Value)} {a : Act} {E : Env} {n n' : Nat} {h' : H} {v : Value} {o : Oper}

theorem bin_ints {op : BinOp} {x y v : Value} (hb : bin op x y = some v) : ∃ k i k' j, x = .int k i ∧ y = .int k' j := by
  unfold bin at hb
  split at hb
  · exact ⟨_, _, _, _, rfl, rfl⟩
  · cases hb

theorem run_bin {op : BinOp} {t : TypeId} {k k' : IntKind} {i j : Int} (hb : bin op (.int k i) (.int k' j) = some v) : (binOp op t (.int k i) (.int k' j)).run P w = .ok v w := by
  cases op <;> simp only [bin] at hb <;> simp only [binOp]
  case shl =>
    split at hb
    · cases hb
    · rename_i hn; cases hb; simp [Op.shift, hn]
  case shr =>
    split at hb
    · cases hb
    · rename_i hn; cases hb; simp [Op.shift, hn]
  case quo =>
    split at hb
    · rename_i hk
      split at hb
      · cases hb
      · rename_i hj; cases hb; simp [hk, Op.intDiv, hj]
    · cases hb
  case rem =>
    split at hb
    · rename_i hk
      split at hb
      · cases hb
      · rename_i hj; cases hb; simp [hk, Op.intDiv, hj]
    · cases hb
  all_goals
    split at hb
    · rename_i hk; cases hb; subst hk; simp [Op.intArith, Op.intBits, Op.intCmp]
    · cases hb

theorem VR.int_inv {k : IntKind} {i : Int} {v' : Value} (h : VR ρ (.int k i) v') : v' = .int k i := h.weak.int_inv

theorem run_opBin (r : R G ρ h w) (l : Live ρ N Γ a) {op : BinOp} {t yt : TypeId} {x y : Operand} (ho : o.op = .binOp op t x y yt) (e : opBin op (ev G Γ x) (ev G Γ y) n h = some (v, n', h')) : Does P G o a w ρ h v h' := by
  obtain ⟨rfl, rfl, hb⟩ := opBin_some e
  obtain ⟨k, i, k', j, hx, hy⟩ := bin_ints hb
  have hxv := ev_sim r l x
  have hyv := ev_sim r l y
  rw [hx] at hxv hb
  rw [hy] at hyv hb
  have hint : ∃ k z, v = .int k z ∨ ∃ b, v = .bool b := by
    unfold bin at hb
    cases op <;> simp only at hb <;> (repeat' split at hb) <;> first | (cases hb; done) | (simp only [Option.some.injEq] at hb; subst hb; first | exact ⟨_, _, .inl rfl⟩ | exact ⟨.i64, 0, .inr ⟨_, rfl⟩⟩)
  refine .same r (v' := v) ?_ ?_
  · have := run_bin (P := P) (w := w) (t := t) hb
    have hg : (eqGuard op t x y (.int k i) (.int k' j)).run P w = .ok () w := by
      unfold eqGuard
      cases op <;> simp
    simp [execOp, ho, hxv.int_inv, hyv.int_inv, hg, this]
  · rcases hint with ⟨k, z, rfl | ⟨b, rfl⟩⟩
    · exact (VR.int _ _).weak
    · exact (VR.bool _).weak

theorem eqB_some {x y : Value} {b : Bool} (e : eqB x y = some b) : ∃ i j, x = .bool i ∧ y = .bool j ∧ b = (i == j) := by
  unfold eqB at e
  split at e
  · cases e; exact ⟨_, _, rfl, rfl, rfl⟩
  · cases e
theorem eqP_some {x y : Value} {b : Bool} (e : eqP x y = some b) : (x = .pointer none ∧ y = .pointer none ∧ b = true) ∨ (∃ p, x = .pointer none ∧ y = .pointer (some p) ∧ b = false) ∨ ∃ p, x = .pointer (some p) ∧ y = .pointer none ∧ b = false := by
  unfold eqP at e
  split at e
  · cases e; exact .inl ⟨rfl, rfl, rfl⟩
  · cases e; exact .inr (.inl ⟨_, rfl, rfl, rfl⟩)
  · cases e; exact .inr (.inr ⟨_, rfl, rfl, rfl⟩)
  · cases e
theorem eqSl_some {x y : Value} {b : Bool} (e : eqSl x y = some b) : (∃ l c m d, x = .slice none l c ∧ y = .slice none m d ∧ b = true) ∨ (∃ p l c m d, x = .slice none l c ∧ y = .slice (some p) m d ∧ b = false) ∨ ∃ p l c m d, x = .slice (some p) l c ∧ y = .slice none m d ∧ b = false := by
  unfold eqSl at e
  split at e
  · cases e; exact .inl ⟨_, _, _, _, rfl, rfl, rfl⟩
  · cases e; exact .inr (.inl ⟨_, _, _, _, _, rfl, rfl, rfl⟩)
  · cases e; exact .inr (.inr ⟨_, _, _, _, _, rfl, rfl, rfl⟩)
  · cases e

theorem run_equalIn_sl {t el : TypeId} (hu : P.underlying t = some (.slice el)) (d : Nat) (b : Option Addr) (l c m k : Nat) : (Op.equalIn (d + 1) t (.slice none l c) (.slice b m k)).run P w = .ok b.isNone w := by
  simp [Op.equalIn, run_underlying hu]
theorem run_equalIn_sl' {t el : TypeId} (hu : P.underlying t = some (.slice el)) (d : Nat) (p : Addr) (l c m k : Nat) : (Op.equalIn (d + 1) t (.slice (some p) l c) (.slice none m k)).run P w = .ok false w := by
  simp [Op.equalIn, run_underlying hu]
theorem run_eqSl {t el : TypeId} (hu : P.underlying t = some (.slice el)) (neg : Bool) (b : Option Addr) (l c m k : Nat) :
    (binOp (if neg then .neq else .eql) t (.slice none l c) (.slice b m k)).run P w = .ok (.bool (xor neg b.isNone)) w := by
  have : (Op.equal t (.slice none l c) (.slice b m k)).run P w = .ok b.isNone w := run_equalIn_sl hu 9999 b l c m k
  cases neg <;> simp only [Bool.false_eq_true, if_false, if_true, binOp, Sem.run_bind, this, Result.andThen_ok, Sem.run_pure, Bool.false_xor, Bool.true_xor]
theorem run_eqSl' {t el : TypeId} (hu : P.underlying t = some (.slice el)) (neg : Bool) (p : Addr) (l c m k : Nat) :
    (binOp (if neg then .neq else .eql) t (.slice (some p) l c) (.slice none m k)).run P w = .ok (.bool (xor neg false)) w := by
  have : (Op.equal t (.slice (some p) l c) (.slice none m k)).run P w = .ok false w := run_equalIn_sl' hu 9999 p l c m k
  cases neg <;> simp only [Bool.false_eq_true, if_false, if_true, binOp, Sem.run_bind, this, Result.andThen_ok, Sem.run_pure, Bool.false_xor, Bool.true_xor, Bool.not_false]

theorem run_equalIn_b {t : TypeId} (hu : P.underlying t = some .bool) (d : Nat) (i j : Bool) : (Op.equalIn (d + 1) t (.bool i) (.bool j)).run P w = .ok (i == j) w := by
  simp [Op.equalIn, run_underlying hu]
theorem run_equalIn_p {t el : TypeId} (hu : P.underlying t = some (.pointer el)) (d : Nat) (b : Option Addr) : (Op.equalIn (d + 1) t (.pointer none) (.pointer b)).run P w = .ok b.isNone w := by
  simp [Op.equalIn, run_underlying hu]
theorem run_equalIn_p' {t el : TypeId} (hu : P.underlying t = some (.pointer el)) (d : Nat) (p : Addr) : (Op.equalIn (d + 1) t (.pointer (some p)) (.pointer none)).run P w = .ok false w := by
  simp [Op.equalIn, run_underlying hu]
theorem run_eqB {t : TypeId} (hu : P.underlying t = some .bool) (neg : Bool) (i j : Bool) : (binOp (if neg then .neq else .eql) t (.bool i) (.bool j)).run P w = .ok (.bool (xor neg (i == j))) w := by
  have : (Op.equal t (.bool i) (.bool j)).run P w = .ok (i == j) w := run_equalIn_b hu 9999 i j
  cases neg <;> simp only [Bool.false_eq_true, if_false, if_true, binOp, Sem.run_bind, this, Result.andThen_ok, Sem.run_pure, Bool.false_xor, Bool.true_xor]
theorem run_eqP {t el : TypeId} (hu : P.underlying t = some (.pointer el)) (neg : Bool) (b : Option Addr) : (binOp (if neg then .neq else .eql) t (.pointer none) (.pointer b)).run P w = .ok (.bool (xor neg b.isNone)) w := by
  have : (Op.equal t (.pointer none) (.pointer b)).run P w = .ok b.isNone w := run_equalIn_p hu 9999 b
  cases neg <;> simp only [Bool.false_eq_true, if_false, if_true, binOp, Sem.run_bind, this, Result.andThen_ok, Sem.run_pure, Bool.false_xor, Bool.true_xor]
theorem run_eqP' {t el : TypeId} (hu : P.underlying t = some (.pointer el)) (neg : Bool) (p : Addr) : (binOp (if neg then .neq else .eql) t (.pointer (some p)) (.pointer none)).run P w = .ok (.bool (xor neg false)) w := by
  have : (Op.equal t (.pointer (some p)) (.pointer none)).run P w = .ok false w := run_equalIn_p' hu 9999 p
  cases neg <;> simp only [Bool.false_eq_true, if_false, if_true, binOp, Sem.run_bind, this, Result.andThen_ok, Sem.run_pure, Bool.false_xor, Bool.true_xor, Bool.not_false]

theorem does_bool (r : R G ρ h w) {op : BinOp} {t yt : TypeId} {x y : Operand} (ho : o.op = .binOp op t x y yt) {b : Bool} {u z : Value} (hx : a.eval x = u) (hy : a.eval y = z)
    (hg : (eqGuard op t x y u z).run P w = .ok () w) (hr : (binOp op t u z).run P w = .ok (.bool b) w) : Does P G o a w ρ h (.bool b) h :=
  .same r (v' := .bool b) (by simp [execOp, ho, hx, hy, hg, hr]) (VR.bool _).weak

theorem sim_binOp (r : R G ρ h w) (l : Live ρ N Γ a) {op : BinOp} {t yt : TypeId} {x y : Operand} (ho : o.op = .binOp op t x y yt) (e : aop P G E Γ o.op n h = some (v, n', h')) : Does P G o a w ρ h v h' := by
  rw [ho] at e
  have hx := ev_sim r l x
  have hy := ev_sim r l y
  have key : ∀ (neg : Bool) (f : Value → Value → Option Bool), opEq f neg (ev G Γ x) (ev G Γ y) n h = some (v, n', h') →
      (∀ b, f (ev G Γ x) (ev G Γ y) = some b → ∃ u z, a.eval x = u ∧ a.eval y = z ∧ (eqGuard (if neg then .neq else .eql) t x y u z).run P w = .ok () w ∧ (binOp (if neg then .neq else .eql) t u z).run P w = .ok (.bool (xor neg b)) w) →
      op = (if neg then .neq else .eql) → Does P G o a w ρ h v h' := by
    intro neg f e hk hop
    obtain ⟨rfl, rfl, b, hb, rfl⟩ := opEq_some e
    obtain ⟨u, z, h1, h2, h3, h4⟩ := hk b hb
    subst hop
    exact does_bool r ho h1 h2 h3 h4
  have kB : ∀ neg b, P.underlying t = some .bool → eqB (ev G Γ x) (ev G Γ y) = some b → ∃ u z, a.eval x = u ∧ a.eval y = z ∧ (eqGuard (if neg then .neq else .eql) t x y u z).run P w = .ok () w ∧ (binOp (if neg then .neq else .eql) t u z).run P w = .ok (.bool (xor neg b)) w := by
    intro neg b hu hb
    obtain ⟨i, j, hxe, hye, rfl⟩ := eqB_some hb
    rw [hxe] at hx; rw [hye] at hy
    exact ⟨_, _, hx.bool_inv, hy.bool_inv, by cases neg <;> simp [eqGuard], run_eqB hu neg i j⟩
  have kP : ∀ neg b el, P.underlying t = some (.pointer el) → eqP (ev G Γ x) (ev G Γ y) = some b → ∃ u z, a.eval x = u ∧ a.eval y = z ∧ (eqGuard (if neg then .neq else .eql) t x y u z).run P w = .ok () w ∧ (binOp (if neg then .neq else .eql) t u z).run P w = .ok (.bool (xor neg b)) w := by
    intro neg b el hu hb
    rcases eqP_some hb with ⟨hxe, hye, rfl⟩ | ⟨p, hxe, hye, rfl⟩ | ⟨p, hxe, hye, rfl⟩
    · rw [hxe] at hx; rw [hye] at hy
      exact ⟨_, _, hx.nilptr_inv, hy.nilptr_inv, by cases neg <;> simp [eqGuard], run_eqP hu neg none⟩
    · rw [hxe] at hx; rw [hye] at hy
      obtain ⟨_, _, L, _, _, hv'⟩ := hy.ptr_inv
      exact ⟨_, _, hx.nilptr_inv, hv', by cases neg <;> simp [eqGuard], run_eqP hu neg (some _)⟩
    · rw [hxe] at hx; rw [hye] at hy
      obtain ⟨_, _, L, _, _, hv'⟩ := hx.ptr_inv
      exact ⟨_, _, hv', hy.nilptr_inv, by cases neg <;> simp [eqGuard], run_eqP' hu neg _⟩
  have kS : ∀ neg b el, P.underlying t = some (.slice el) → eqSl (ev G Γ x) (ev G Γ y) = some b → ∃ u z, a.eval x = u ∧ a.eval y = z ∧ (eqGuard (if neg then .neq else .eql) t x y u z).run P w = .ok () w ∧ (binOp (if neg then .neq else .eql) t u z).run P w = .ok (.bool (xor neg b)) w := by
    intro neg b el hu hb
    rcases eqSl_some hb with ⟨_, _, _, _, hxe, hye, rfl⟩ | ⟨p, _, _, _, _, hxe, hye, rfl⟩ | ⟨p, _, _, _, _, hxe, hye, rfl⟩
    · rw [hxe] at hx; rw [hye] at hy
      exact ⟨_, _, hx.nilslice_inv.2.2, hy.nilslice_inv.2.2, by cases neg <;> simp [eqGuard], run_eqSl hu neg none 0 0 0 0⟩
    · rw [hxe] at hx; rw [hye] at hy
      obtain ⟨_, _, L, p', _, _, _, hv', _⟩ := hy.slice_inv
      exact ⟨_, _, hx.nilslice_inv.2.2, hv', by cases neg <;> simp [eqGuard], run_eqSl hu neg (some p') 0 0 _ _⟩
    · rw [hxe] at hx; rw [hye] at hy
      obtain ⟨_, _, L, _, _, _, _, hv', _⟩ := hx.slice_inv
      exact ⟨_, _, hv', hy.nilslice_inv.2.2, by cases neg <;> simp [eqGuard], run_eqSl' hu neg _ _ _ 0 0⟩
  cases op with
  | eql =>
    simp only [aop] at e
    cases hu : P.underlying t with
    | none => simp only [hu] at e; exact run_opBin r l ho e
    | some d =>
      cases d <;> simp only [hu] at e <;> first
        | exact key false eqB e (fun b hb => kB false b hu hb) rfl
        | exact key false eqP e (fun b hb => kP false b _ hu hb) rfl
        | exact key false eqSl e (fun b hb => kS false b _ hu hb) rfl
        | exact run_opBin r l ho e
  | neq =>
    simp only [aop] at e
    cases hu : P.underlying t with
    | none => simp only [hu] at e; exact run_opBin r l ho e
    | some d =>
      cases d <;> simp only [hu] at e <;> first
        | exact key true eqB e (fun b hb => kB true b hu hb) rfl
        | exact key true eqP e (fun b hb => kP true b _ hu hb) rfl
        | exact key true eqSl e (fun b hb => kS true b _ hu hb) rfl
        | exact run_opBin r l ho e
  | _ => exact run_opBin r l ho e

/-! ### len, max, min -/

theorem sim_len (r : R G ρ h w) (l : Live ρ N Γ a) {c : Call} (ho : o.op = .call c) (hc : c.callee = .builtin .len) (e : aop P G E Γ o.op n h = some (v, n', h')) : Does P G o a w ρ h v h' := by
  rw [ho] at e
  simp only [aop, hc] at e
  cases hts : c.argTypes.toList with
  | nil => simp only [hts] at e; cases e
  | cons t ts =>
  cases ts with
  | cons _ _ => simp only [hts] at e; cases e
  | nil =>
  cases hxs : c.args.toList with
  | nil => simp only [hts, hxs] at e; cases e
  | cons x xs =>
  cases xs with
  | cons _ _ => simp only [hts, hxs] at e; cases e
  | nil =>
  simp only [hts, hxs] at e
  have hta : c.argTypes = #[t] := by rw [← Array.toArray_toList (xs := c.argTypes), hts]
  have hxa : c.args = #[x] := by rw [← Array.toArray_toList (xs := c.args), hxs]
  have hx := ev_sim r l x
  cases hu : P.underlying t with
  | none => simp only [hu] at e; cases e
  | some d =>
  cases d <;> simp only [hu] at e <;> try (cases e; done)
  · obtain ⟨rfl, rfl, s, hp, rfl⟩ := opLenS_some e
    rw [hp] at hx
    exact .same r (v' := .int .i64 s.size) (by simp [execOp, ho, resolve, hc, hta, hxa, invoke, builtin, Builtin.len_, run_underlying hu, hx.string_inv, goInt]) (VR.int _ _).weak
  · obtain ⟨rfl, rfl, p, k, q, hp, rfl⟩ := opLen_some e
    rw [hp] at hx
    refine .same r (v' := .int .i64 k) ?_ (VR.int _ _).weak
    have : ∃ p' q', a.eval x = .slice p' k q' := by
      cases p with
      | none => obtain ⟨rfl, rfl, h⟩ := hx.nilslice_inv; exact ⟨_, _, h⟩
      | some p => obtain ⟨_, _, L, a', c', _, _, h, _⟩ := hx.slice_inv; exact ⟨_, _, h⟩
    obtain ⟨p', q', hx'⟩ := this
    simp [execOp, ho, resolve, hc, hta, hxa, invoke, builtin, Builtin.len_, run_underlying hu, hx', goInt]

theorem run_fold {f : Value → Value → Option Value} {g : Value → Value → Sem Value} (hfg : ∀ x y z, f x y = some z → ∃ k i j l, x = .int k i ∧ y = .int l j ∧ (∃ q, z = .int k q) ∧ ∀ w, (g x y).run P w = .ok z w) :
    ∀ (ys ys' : List Value) (x v : Value), foldO f x ys = some v → (∃ k i, x = .int k i) → WL ρ ys ys' → (∃ k i, v = .int k i) ∧ (ys'.foldlM g x).run P w = .ok v w
  | [], ys', x, v, e, hx, hl => by
    have hys : ys' = [] := List.eq_nil_of_length_eq_zero (by have := hl.1; simpa using this.symm)
    subst hys
    simp only [foldO, Option.some.injEq] at e
    subst e
    exact ⟨hx, by simp⟩
  | y :: ys, ys', x, v, e, hx, hl => by
    obtain ⟨u, us, rfl, hu, hus⟩ := hl.head
    simp only [foldO] at e
    split at e
    · rename_i z hz
      obtain ⟨k, i, j, l, rfl, rfl, ⟨q, rfl⟩, hr⟩ := hfg _ _ _ hz
      obtain ⟨hv, hrun⟩ := run_fold hfg ys us _ v e ⟨_, _, rfl⟩ hus
      refine ⟨hv, ?_⟩
      rw [hu.int_inv]
      simp [hr, hrun]
    · cases e

theorem max2_run {x y z : Value} (e : max2 x y = some z) : ∃ k i j l, x = .int k i ∧ y = .int l j ∧ (∃ q, z = .int k q) ∧ ∀ w, (Builtin.max2 x y).run P w = .ok z w := by
  unfold max2 at e
  split at e
  · cases e; exact ⟨_, _, _, _, rfl, rfl, ⟨_, rfl⟩, fun w => by simp [Builtin.max2]⟩
  · cases e
theorem min2_run {x y z : Value} (e : min2 x y = some z) : ∃ k i j l, x = .int k i ∧ y = .int l j ∧ (∃ q, z = .int k q) ∧ ∀ w, (Builtin.min2 x y).run P w = .ok z w := by
  unfold min2 at e
  split at e
  · cases e; exact ⟨_, _, _, _, rfl, rfl, ⟨_, rfl⟩, fun w => by simp [Builtin.min2]⟩
  · cases e

theorem foldO_int {f : Value → Value → Option Value} (hf : ∀ x y z, f x y = some z → ∃ k i, x = .int k i) {x v : Value} {ys : List Value} (hy : ys ≠ []) (e : foldO f x ys = some v) : ∃ k i, x = .int k i := by
  cases ys with
  | nil => exact absurd rfl hy
  | cons y r =>
    simp only [foldO] at e
    split at e
    · rename_i z hz; exact hf _ _ _ hz
    · cases e

theorem sim_max (r : R G ρ h w) (l : Live ρ N Γ a) {c : Call} (ho : o.op = .call c) (hc : c.callee = .builtin .max) (e : aop P G E Γ o.op n h = some (v, n', h')) : Does P G o a w ρ h v h' := by
  rw [ho] at e
  simp only [aop, hc] at e
  obtain ⟨rfl, rfl, x, rs, hxs, hf⟩ := opMax_some e
  have hl := WL.map r l c.args.toList
  rw [hxs] at hl
  obtain ⟨u, us, hu, hxu, hrs⟩ := hl.head
  by_cases hne : rs = []
  · subst hne
    have hus : us = [] := List.eq_nil_of_length_eq_zero (by have := hrs.1; simpa using this.symm)
    subst hus
    simp only [foldO, Option.some.injEq] at hf
    subst hf
    refine .same r (v' := u) ?_ hxu
    simp [execOp, ho, resolve, hc, invoke, builtin, Builtin.max_, hu]
  · obtain ⟨k, i, rfl⟩ := foldO_int (fun x y z hz => by obtain ⟨k, i, _, _, h, _⟩ := max2_run (P := P) hz; exact ⟨k, i, h⟩) hne hf
    obtain ⟨⟨k', i', rfl⟩, hrun⟩ := run_fold (P := P) (w := w) (fun x y z hz => max2_run hz) rs us _ v hf ⟨_, _, rfl⟩ hrs
    rw [hxu.int_inv] at hu
    refine .same r (v' := .int k' i') ?_ (VR.int _ _).weak
    simp [execOp, ho, resolve, hc, invoke, builtin, Builtin.max_, hu, hrun]

theorem sim_min (r : R G ρ h w) (l : Live ρ N Γ a) {c : Call} (ho : o.op = .call c) (hc : c.callee = .builtin .min) (e : aop P G E Γ o.op n h = some (v, n', h')) : Does P G o a w ρ h v h' := by
  rw [ho] at e
  simp only [aop, hc] at e
  obtain ⟨rfl, rfl, x, rs, hxs, hf⟩ := opMin_some e
  have hl := WL.map r l c.args.toList
  rw [hxs] at hl
  obtain ⟨u, us, hu, hxu, hrs⟩ := hl.head
  by_cases hne : rs = []
  · subst hne
    have hus : us = [] := List.eq_nil_of_length_eq_zero (by have := hrs.1; simpa using this.symm)
    subst hus
    simp only [foldO, Option.some.injEq] at hf
    subst hf
    refine .same r (v' := u) ?_ hxu
    simp [execOp, ho, resolve, hc, invoke, builtin, Builtin.min_, hu]
  · obtain ⟨k, i, rfl⟩ := foldO_int (fun x y z hz => by obtain ⟨k, i, _, _, h, _⟩ := min2_run (P := P) hz; exact ⟨k, i, h⟩) hne hf
    obtain ⟨⟨k', i', rfl⟩, hrun⟩ := run_fold (P := P) (w := w) (fun x y z hz => min2_run hz) rs us _ v hf ⟨_, _, rfl⟩ hrs
    rw [hxu.int_inv] at hu
    refine .same r (v' := .int k' i') ?_ (VR.int _ _).weak
    simp [execOp, ho, resolve, hc, invoke, builtin, Builtin.min_, hu, hrun]
end
end Go.Fw
