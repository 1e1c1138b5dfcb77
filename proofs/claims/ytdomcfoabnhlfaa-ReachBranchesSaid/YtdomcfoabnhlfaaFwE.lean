/-
  What each operation of the abstract machine does in a world that the heap speaks of: the plain ones.
-/
import Derived.Test.YtdomcfoabnhlfaaFwD
namespace Go.Fw

theorem opPick_some {c a b : Value} {n : Nat} {h : H} {v : Value} {n' : Nat} {h' : H} (e : opPick c a b n h = some (v, n', h')) : n' = n ∧ h' = h ∧ ((c = .bool true ∧ v = a) ∨ (c = .bool false ∧ v = b)) := by
  obtain ⟨m, hm⟩ : ∃ m, m = opPick c a b := ⟨_, rfl⟩
  rw [← hm] at e
  unfold opPick at hm
  split at hm
  · subst hm; obtain ⟨rfl, rfl, rfl⟩ := ret_some e; exact ⟨rfl, rfl, .inl ⟨rfl, rfl⟩⟩
  · subst hm; obtain ⟨rfl, rfl, rfl⟩ := ret_some e; exact ⟨rfl, rfl, .inr ⟨rfl, rfl⟩⟩
  · subst hm; cases e
theorem opBoxN_some {v : Value} {n : Nat} {h : H} {z : Value × Nat × H} (e : opBoxN v n h = some z) : ∃ cs, v = .agg cs ∧ opPtr cs.toList n h = some z := by
  obtain ⟨m, hm⟩ : ∃ m, m = opBoxN v := ⟨_, rfl⟩
  rw [← hm] at e
  unfold opBoxN at hm
  split at hm
  · subst hm; exact ⟨_, rfl, e⟩
  · subst hm; cases e
theorem opNil_some {x : Value} {n : Nat} {h : H} {v : Value} {n' : Nat} {h' : H} (e : opNil x n h = some (v, n', h')) :
    n' = n ∧ h' = h ∧ v = x ∧ ((∃ a, x = .pointer (some a)) ∨ (∃ f fi cs, x = .func (.func f) fi cs) ∨ ∃ t u, x = .iface t u) := by
  obtain ⟨m, hm⟩ : ∃ m, m = opNil x := ⟨_, rfl⟩
  rw [← hm] at e
  unfold opNil at hm
  split at hm
  · subst hm; obtain ⟨rfl, rfl, rfl⟩ := ret_some e; exact ⟨rfl, rfl, rfl, .inl ⟨_, rfl⟩⟩
  · subst hm; obtain ⟨rfl, rfl, rfl⟩ := ret_some e; exact ⟨rfl, rfl, rfl, .inr (.inl ⟨_, _, _, rfl⟩)⟩
  · subst hm; obtain ⟨rfl, rfl, rfl⟩ := ret_some e; exact ⟨rfl, rfl, rfl, .inr (.inr ⟨_, _, rfl⟩)⟩
  · subst hm; cases e
theorem opFieldAddr_some {off : Nat} {x : Value} {n : Nat} {h : H} {v : Value} {n' : Nat} {h' : H} (e : opFieldAddr off x n h = some (v, n', h')) :
    n' = n ∧ h' = h ∧ ∃ b o, x = .pointer (some ⟨b, o, none⟩) ∧ v = .pointer (some ⟨b, o + off, none⟩) := by
  obtain ⟨m, hm⟩ : ∃ m, m = opFieldAddr off x := ⟨_, rfl⟩
  rw [← hm] at e
  unfold opFieldAddr at hm
  split at hm
  · subst hm; obtain ⟨rfl, rfl, rfl⟩ := ret_some e; exact ⟨rfl, rfl, _, _, rfl, rfl⟩
  · subst hm; cases e
theorem opField_some {off : Nat} {x : Value} {n : Nat} {h : H} {v : Value} {n' : Nat} {h' : H} (e : opField off x n h = some (v, n', h')) :
    n' = n ∧ h' = h ∧ ∃ cs, x = .agg cs ∧ cs.toList[off]? = some v := by
  obtain ⟨m, hm⟩ : ∃ m, m = opField off x := ⟨_, rfl⟩
  rw [← hm] at e
  unfold opField at hm
  split at hm
  · split at hm
    · subst hm; obtain ⟨rfl, rfl, rfl⟩ := ret_some e; exact ⟨rfl, rfl, _, rfl, by assumption⟩
    · subst hm; cases e
  · subst hm; cases e
theorem opFieldN_some {off size : Nat} {x : Value} {n : Nat} {h : H} {v : Value} {n' : Nat} {h' : H} (e : opFieldN off size x n h = some (v, n', h')) :
    n' = n ∧ h' = h ∧ ∃ cs, x = .agg cs ∧ off + size ≤ cs.toList.length ∧ v = .agg ((cs.toList.drop off).take size).toArray := by
  obtain ⟨m, hm⟩ : ∃ m, m = opFieldN off size x := ⟨_, rfl⟩
  rw [← hm] at e
  unfold opFieldN at hm
  split at hm
  · split at hm
    · subst hm; obtain ⟨rfl, rfl, rfl⟩ := ret_some e; exact ⟨rfl, rfl, _, rfl, by assumption, rfl⟩
    · subst hm; cases e
  · subst hm; cases e
theorem opIndexAddr_some {size : Nat} {x i : Value} {n : Nat} {h : H} {v : Value} {n' : Nat} {h' : H} (e : opIndexAddr size x i n h = some (v, n', h')) :
    n' = n ∧ h' = h ∧ ∃ b o len cap k j, x = .slice (some ⟨b, o, none⟩) len cap ∧ i = .int k j ∧ 0 ≤ j ∧ j < (len : Int) ∧ v = .pointer (some ⟨b, o + j.toNat * size, none⟩) := by
  obtain ⟨m, hm⟩ : ∃ m, m = opIndexAddr size x i := ⟨_, rfl⟩
  rw [← hm] at e
  unfold opIndexAddr at hm
  split at hm
  · split at hm
    · rename_i hj; subst hm; obtain ⟨rfl, rfl, rfl⟩ := ret_some e; exact ⟨rfl, rfl, _, _, _, _, _, _, rfl, rfl, hj.1, hj.2, rfl⟩
    · subst hm; cases e
  · subst hm; cases e
theorem opIndexAddrA_some {l size : Nat} {x i : Value} {n : Nat} {h : H} {v : Value} {n' : Nat} {h' : H} (e : opIndexAddrA l size x i n h = some (v, n', h')) :
    n' = n ∧ h' = h ∧ ∃ b o k j, x = .pointer (some ⟨b, o, none⟩) ∧ i = .int k j ∧ 0 ≤ j ∧ j < (l : Int) ∧ v = .pointer (some ⟨b, o + j.toNat * size, none⟩) := by
  obtain ⟨m, hm⟩ : ∃ m, m = opIndexAddrA l size x i := ⟨_, rfl⟩
  rw [← hm] at e
  unfold opIndexAddrA at hm
  split at hm
  · split at hm
    · rename_i hj; subst hm; obtain ⟨rfl, rfl, rfl⟩ := ret_some e; exact ⟨rfl, rfl, _, _, _, _, rfl, rfl, hj.1, hj.2, rfl⟩
    · subst hm; cases e
  · subst hm; cases e
theorem opIndexA_some {l : Nat} {x i : Value} {n : Nat} {h : H} {v : Value} {n' : Nat} {h' : H} (e : opIndexA l x i n h = some (v, n', h')) :
    n' = n ∧ h' = h ∧ ∃ cs k j, x = .agg cs ∧ i = .int k j ∧ 0 ≤ j ∧ j < (l : Int) ∧ cs.toList[j.toNat]? = some v := by
  obtain ⟨m, hm⟩ : ∃ m, m = opIndexA l x i := ⟨_, rfl⟩
  rw [← hm] at e
  unfold opIndexA at hm
  split at hm
  · split at hm
    · rename_i hj
      split at hm
      · subst hm; obtain ⟨rfl, rfl, rfl⟩ := ret_some e; exact ⟨rfl, rfl, _, _, _, rfl, rfl, hj.1, hj.2, by assumption⟩
      · subst hm; cases e
    · subst hm; cases e
  · subst hm; cases e
theorem opIndexS_some {x i : Value} {n : Nat} {h : H} {v : Value} {n' : Nat} {h' : H} (e : opIndexS x i n h = some (v, n', h')) :
    n' = n ∧ h' = h ∧ ∃ (s : ByteArray) (k : IntKind) (j : Int) (b : UInt8), x = .string s ∧ i = .int k j ∧ 0 ≤ j ∧ s[j.toNat]? = some b ∧ v = .int .u8 b.toNat := by
  obtain ⟨m, hm⟩ : ∃ m, m = opIndexS x i := ⟨_, rfl⟩
  rw [← hm] at e
  unfold opIndexS at hm
  split at hm
  · split at hm
    · rename_i hj
      split at hm
      · subst hm; obtain ⟨rfl, rfl, rfl⟩ := ret_some e; exact ⟨rfl, rfl, _, _, _, _, rfl, rfl, hj, by assumption, rfl⟩
      · subst hm; cases e
    · subst hm; cases e
  · subst hm; cases e
theorem opExtract_some {x : Value} {i : Nat} {n : Nat} {h : H} {v : Value} {n' : Nat} {h' : H} (e : opExtract x i n h = some (v, n', h')) :
    n' = n ∧ h' = h ∧ ∃ vs, x = .tuple vs ∧ vs.toList[i]? = some v ∧ vs.size ≠ 1 := by
  obtain ⟨m, hm⟩ : ∃ m, m = opExtract x i := ⟨_, rfl⟩
  rw [← hm] at e
  unfold opExtract at hm
  split at hm
  · split at hm
    · split at hm
      · subst hm; cases e
      · rename_i h1; subst hm; obtain ⟨rfl, rfl, rfl⟩ := ret_some e; exact ⟨rfl, rfl, _, rfl, by assumption, by simpa using h1⟩
    · subst hm; cases e
  · subst hm; cases e
theorem opBin_some {op : BinOp} {x y : Value} {n : Nat} {h : H} {v : Value} {n' : Nat} {h' : H} (e : opBin op x y n h = some (v, n', h')) : n' = n ∧ h' = h ∧ bin op x y = some v := by
  unfold opBin at e
  cases hb : bin op x y with
  | none => rw [hb] at e; cases e
  | some u => rw [hb] at e; obtain ⟨rfl, rfl, rfl⟩ := ret_some e; exact ⟨rfl, rfl, rfl⟩
theorem opEq_some {f : Value → Value → Option Bool} {neg : Bool} {x y : Value} {n : Nat} {h : H} {v : Value} {n' : Nat} {h' : H} (e : opEq f neg x y n h = some (v, n', h')) :
    n' = n ∧ h' = h ∧ ∃ b, f x y = some b ∧ v = .bool (xor neg b) := by
  unfold opEq at e
  cases hb : f x y with
  | none => rw [hb] at e; cases e
  | some u => rw [hb] at e; obtain ⟨rfl, rfl, rfl⟩ := ret_some e; exact ⟨rfl, rfl, _, rfl, rfl⟩
theorem opNot_some {x : Value} {n : Nat} {h : H} {v : Value} {n' : Nat} {h' : H} (e : opNot x n h = some (v, n', h')) : n' = n ∧ h' = h ∧ ∃ b, x = .bool b ∧ v = .bool (!b) := by
  obtain ⟨m, hm⟩ : ∃ m, m = opNot x := ⟨_, rfl⟩
  rw [← hm] at e
  unfold opNot at hm
  split at hm
  · subst hm; obtain ⟨rfl, rfl, rfl⟩ := ret_some e; exact ⟨rfl, rfl, _, rfl, rfl⟩
  · subst hm; cases e
theorem opNeg_some {x : Value} {n : Nat} {h : H} {v : Value} {n' : Nat} {h' : H} (e : opNeg x n h = some (v, n', h')) : n' = n ∧ h' = h ∧ ∃ k z, x = .int k z ∧ v = .int k (k.wrap (0 - z)) := by
  obtain ⟨m, hm⟩ : ∃ m, m = opNeg x := ⟨_, rfl⟩
  rw [← hm] at e
  unfold opNeg at hm
  split at hm
  · subst hm; obtain ⟨rfl, rfl, rfl⟩ := ret_some e; exact ⟨rfl, rfl, _, _, rfl, rfl⟩
  · subst hm; cases e
theorem opCom_some {x : Value} {n : Nat} {h : H} {v : Value} {n' : Nat} {h' : H} (e : opCom x n h = some (v, n', h')) :
    n' = n ∧ h' = h ∧ ∃ k z, x = .int k z ∧ v = .int k (k.wrap (BitVec.ofInt k.bits (if k.signed then -1 else k.max) ^^^ BitVec.ofInt k.bits z).toNat) := by
  obtain ⟨m, hm⟩ : ∃ m, m = opCom x := ⟨_, rfl⟩
  rw [← hm] at e
  unfold opCom at hm
  split at hm
  · subst hm; obtain ⟨rfl, rfl, rfl⟩ := ret_some e; exact ⟨rfl, rfl, _, _, rfl, rfl⟩
  · subst hm; cases e
theorem opConv_some {k : IntKind} {x : Value} {n : Nat} {h : H} {v : Value} {n' : Nat} {h' : H} (e : opConv k x n h = some (v, n', h')) : n' = n ∧ h' = h ∧ ∃ j z, x = .int j z ∧ v = .int k (k.wrap z) := by
  obtain ⟨m, hm⟩ : ∃ m, m = opConv k x := ⟨_, rfl⟩
  rw [← hm] at e
  unfold opConv at hm
  split at hm
  · subst hm; obtain ⟨rfl, rfl, rfl⟩ := ret_some e; exact ⟨rfl, rfl, _, _, rfl, rfl⟩
  · subst hm; cases e
theorem opLen_some {x : Value} {n : Nat} {h : H} {v : Value} {n' : Nat} {h' : H} (e : opLen x n h = some (v, n', h')) : n' = n ∧ h' = h ∧ ∃ a l c, x = .slice a l c ∧ v = .int .i64 l := by
  obtain ⟨m, hm⟩ : ∃ m, m = opLen x := ⟨_, rfl⟩
  rw [← hm] at e
  unfold opLen at hm
  split at hm
  · subst hm; obtain ⟨rfl, rfl, rfl⟩ := ret_some e; exact ⟨rfl, rfl, _, _, _, rfl, rfl⟩
  · subst hm; cases e
theorem opLenS_some {x : Value} {n : Nat} {h : H} {v : Value} {n' : Nat} {h' : H} (e : opLenS x n h = some (v, n', h')) : n' = n ∧ h' = h ∧ ∃ s : ByteArray, x = .string s ∧ v = .int .i64 s.size := by
  obtain ⟨m, hm⟩ : ∃ m, m = opLenS x := ⟨_, rfl⟩
  rw [← hm] at e
  unfold opLenS at hm
  split at hm
  · subst hm; obtain ⟨rfl, rfl, rfl⟩ := ret_some e; exact ⟨rfl, rfl, _, rfl, rfl⟩
  · subst hm; cases e
theorem opMax_some {xs : List Value} {n : Nat} {h : H} {v : Value} {n' : Nat} {h' : H} (e : opMax xs n h = some (v, n', h')) : n' = n ∧ h' = h ∧ ∃ x r, xs = x :: r ∧ foldO max2 x r = some v := by
  cases xs with
  | nil => cases e
  | cons x r =>
    unfold opMax at e
    cases hb : foldO max2 x r with
    | none => simp only [hb] at e; cases e
    | some u => simp only [hb] at e; obtain ⟨rfl, rfl, rfl⟩ := ret_some e; exact ⟨rfl, rfl, _, _, rfl, hb⟩
theorem opMin_some {xs : List Value} {n : Nat} {h : H} {v : Value} {n' : Nat} {h' : H} (e : opMin xs n h = some (v, n', h')) : n' = n ∧ h' = h ∧ ∃ x r, xs = x :: r ∧ foldO min2 x r = some v := by
  cases xs with
  | nil => cases e
  | cons x r =>
    unfold opMin at e
    cases hb : foldO min2 x r with
    | none => simp only [hb] at e; cases e
    | some u => simp only [hb] at e; obtain ⟨rfl, rfl, rfl⟩ := ret_some e; exact ⟨rfl, rfl, _, _, rfl, hb⟩
theorem opFunc_some {fn : Fn} {cs : List Value} {n : Nat} {h : H} {v : Value} {n' : Nat} {h' : H} (e : opFunc fn cs n h = some (v, n', h')) : n' = n ∧ h' = h ∧ cs.all one = true ∧ v = .func fn #[] cs.toArray := by
  unfold opFunc at e
  by_cases h1 : cs.all one = true
  · simp only [h1, if_true] at e; obtain ⟨rfl, rfl, rfl⟩ := ret_some e; exact ⟨rfl, rfl, h1, rfl⟩
  · simp only [h1, if_false] at e; cases e

section
variable {P : Program} {G : Nat} {ρ : Map} {h : H} {w : World} {N : Nat} {Γ : List (Nat × Value)} {a : Act} {E : Env} {n n' : Nat} {h' : H} {v : Value} {o : Oper}

theorem sim_move (r : R G ρ h w) (l : Live ρ N Γ a) {x : Operand} (ho : o.op = .move x) (e : aop P G E Γ o.op n h = some (v, n', h')) : Does P G o a w ρ h v h' := by
  rw [ho] at e
  obtain ⟨rfl, rfl, rfl⟩ := ret_some e
  exact .same r (v' := a.eval x) (by simp [execOp, ho]) (ev_sim r l x)
theorem sim_assign (r : R G ρ h w) (l : Live ρ N Γ a) {x : Operand} (ho : o.op = .assign x) (e : aop P G E Γ o.op n h = some (v, n', h')) : Does P G o a w ρ h v h' := by
  rw [ho] at e
  obtain ⟨rfl, rfl, rfl⟩ := ret_some e
  exact .same r (v' := a.eval x) (by simp [execOp, ho]) (ev_sim r l x)
theorem sim_pick (r : R G ρ h w) (l : Live ρ N Γ a) {c x y : Operand} (ho : o.op = .pick c x y) (e : aop P G E Γ o.op n h = some (v, n', h')) : Does P G o a w ρ h v h' := by
  rw [ho] at e
  obtain ⟨rfl, rfl, hc⟩ := opPick_some e
  have hcv := ev_sim r l c
  rcases hc with ⟨hc, rfl⟩ | ⟨hc, rfl⟩
  · rw [hc] at hcv
    exact .same r (v' := a.eval x) (by simp [execOp, ho, hcv.bool_inv, asBool]) (ev_sim r l x)
  · rw [hc] at hcv
    exact .same r (v' := a.eval y) (by simp [execOp, ho, hcv.bool_inv, asBool]) (ev_sim r l y)

theorem zeroL_some {t : TypeId} {z : List Value} (hz : zeroL P t = some z) : ∃ i u, P.info? t = some i ∧ i.zero = some u ∧ u.cells.toList = z ∧ z.length = i.size ∧ VL ρ z z ∧ z.all one = true := by
  unfold zeroL at hz
  split at hz
  · rename_i i hi
    split at hz
    · rename_i u hu
      split at hz
      · rename_i hc
        simp only [Option.some.injEq] at hz
        subst hz
        simp only [Bool.and_eq_true, decide_eq_true_eq] at hc
        refine ⟨i, u, hi, hu, rfl, hc.2, ⟨rfl, fun j x y hx hy => ?_⟩, ?_⟩
        · rw [hx] at hy; cases hy
          exact .of_okC0 (List.all_eq_true.1 hc.1 x (List.mem_of_getElem? hx))
        · rw [List.all_eq_true]
          intro x hx
          have := List.all_eq_true.1 hc.1 x hx
          revert this
          unfold okC0 one
          cases x <;> simp
      · cases hz
    · cases hz
  · cases hz

theorem sim_alloc (r : R G ρ h w) {t : TypeId} (ho : o.op = .alloc t) (e : aop P G E Γ o.op n h = some (v, n', h')) : Does P G o a w ρ h v h' := by
  rw [ho] at e
  simp only [aop] at e
  cases hz : zeroL P t with
  | none => simp only [hz] at e; cases e
  | some z =>
    simp only [hz] at e
    obtain ⟨i, u, hi, hu, hc, _, hv, _⟩ := zeroL_some (ρ := ρ) hz
    obtain ⟨ρ', v', h1, h2, h3, rfl⟩ := sim_ptr r hv.weak e t
    refine ⟨_, ρ', _, .inl ?_, h1.weak, h2, h3⟩
    have hcc : u.cells = z.toArray := by rw [← hc]
    simp [execOp, ho, Instr.alloc, zeroValue, typeInfo, hi, hu, newVar, newRow, hcc]

theorem sim_box (r : R G ρ h w) (l : Live ρ N Γ a) {t : TypeId} {x : Operand} (ho : o.op = .box t x) (e : aop P G E Γ o.op n h = some (v, n', h')) : Does P G o a w ρ h v h' := by
  rw [ho] at e
  simp only [aop] at e
  have hx := ev_sim r l x
  by_cases hag : aggT P t = true
  · simp only [hag, if_true] at e
    obtain ⟨cs, hcs, e⟩ := opBoxN_some e
    rw [hcs] at hx
    obtain ⟨cs', hx', hv⟩ := hx.agg_inv
    obtain ⟨ρ', v', h1, h2, h3, rfl⟩ := sim_ptr r hv.weak e t
    refine ⟨_, ρ', _, .inl ?_, h1.weak, h2, h3⟩
    simp [execOp, ho, Instr.box, newVar, newRow, hx', cells_agg]
  · simp only [hag, if_false, Bool.false_eq_true] at e
    have h1 : one (ev G Γ x) = true := by
      obtain ⟨b, n1, h1, e1, e2⟩ := bnd_some e
      simpa using (new_some e1).2.2.2.2
    have hxr := hx.strict h1
    obtain ⟨ρ', v', g1, g2, g3, rfl⟩ := sim_ptr r (VL.cons hxr (VL.nil ρ)).weak e t
    refine ⟨_, ρ', _, .inl ?_, g1.weak, g2, g3⟩
    have hcy : (a.eval x).cells = #[a.eval x] := cells_of_one (by rw [hxr.one]; exact h1)
    simp [execOp, ho, Instr.box, newVar, newRow, hcy]

theorem sim_nilCheck (r : R G ρ h w) (l : Live ρ N Γ a) {x : Operand} (ho : o.op = .nilCheck x) (e : aop P G E Γ o.op n h = some (v, n', h')) : Does P G o a w ρ h v h' := by
  rw [ho] at e
  obtain ⟨rfl, rfl, rfl, hk⟩ := opNil_some e
  have hx := ev_sim r l x
  refine .same r (v' := a.eval x) ?_ hx
  rcases hk with ⟨p, hp⟩ | ⟨f, fi, cs, hp⟩ | ⟨t, u, hp⟩
  · rw [hp] at hx
    obtain ⟨b, o', L, _, _, hv'⟩ := hx.ptr_inv
    simp [execOp, ho, hv']
  · rw [hp] at hx
    obtain ⟨_, cs', hv', _⟩ := hx.func_inv
    simp [execOp, ho, hv']
  · rw [hp] at hx
    obtain ⟨u', hv', _⟩ := hx.iface_inv
    simp [execOp, ho, hv']

theorem sim_fieldAddr (r : R G ρ h w) (l : Live ρ N Γ a) {t : TypeId} {x : Operand} {f : Nat} (ho : o.op = .fieldAddr t x f) (e : aop P G E Γ o.op n h = some (v, n', h')) : Does P G o a w ρ h v h' := by
  rw [ho] at e
  simp only [aop] at e
  have hx := ev_sim r l x
  cases hu : P.underlying t with
  | none => simp only [hu] at e; cases e
  | some d =>
  cases d <;> simp only [hu] at e <;> try (cases e; done)
  rename_i fs
  cases hf : fs[f]? with
  | none => simp only [hf] at e; cases e
  | some fd =>
  cases hi : P.info? fd.type with
  | none => simp only [hf, hi] at e; cases e
  | some i =>
    simp only [hf, hi] at e
    by_cases h0 : i.size = 0
    · simp only [h0, if_true] at e; cases e
    · simp only [h0, if_false] at e
      obtain ⟨rfl, rfl, b, o', hp, rfl⟩ := opFieldAddr_some e
      rw [hp] at hx
      obtain ⟨_, _, L, hxe, hL, hv'⟩ := hx.ptr_inv
      cases hxe
      refine .same r (v' := .pointer (some ⟨L.blk, L.off + (o' + fd.offset), none⟩)) ?_ (VR.ptr _ _ _ hL).weak
      simp [execOp, ho, Instr.fieldAt, run_underlying hu, hf, Instr.sureAddr, hv', fieldPlace, sizeOf, typeInfo, hi, h0, addr_add, Nat.add_assoc]

theorem sim_field (r : R G ρ h w) (l : Live ρ N Γ a) {t : TypeId} {x : Operand} {f : Nat} (ho : o.op = .field t x f) (e : aop P G E Γ o.op n h = some (v, n', h')) : Does P G o a w ρ h v h' := by
  rw [ho] at e
  simp only [aop] at e
  have hx := ev_sim r l x
  cases hu : P.underlying t with
  | none => simp only [hu] at e; cases e
  | some d =>
  cases d <;> simp only [hu] at e <;> try (cases e; done)
  rename_i fs
  cases hf : fs[f]? with
  | none => simp only [hf] at e; cases e
  | some fd =>
  cases hd : P.underlying fd.type with
  | none => simp only [hf, hd] at e; cases e
  | some d' =>
  cases hi : P.info? fd.type with
  | none => simp only [hf, hd, hi] at e; cases e
  | some i =>
    simp only [hf, hd, hi] at e
    by_cases hag : aggT P fd.type = true
    · simp only [hag, if_true] at e
      obtain ⟨rfl, rfl, cs, hp, hle, rfl⟩ := opFieldN_some e
      rw [hp] at hx
      obtain ⟨cs', hx', hv⟩ := hx.agg_inv
      refine .same r (v' := .agg (cs'.extract fd.offset (fd.offset + i.size))) ?_ ?_
      · unfold aggT at hag
        rw [hd] at hag
        cases d' <;> simp at hag <;> simp [execOp, ho, Instr.field, run_underlying hu, hf, asAgg, hx', part, isAgg, run_underlying hd, sizeOf, typeInfo, hi]
      · refine VR.weak (.agg _ _ (by have := hv.1; simp at this hle ⊢; omega) fun j u u' hj hj' => ?_)
        have hj2 : j < i.size := by
          have := (Array.getElem?_eq_some_iff.1 hj).1
          simp at this; omega
        have hlc := hv.1
        simp at hlc hle
        refine hv.2 (fd.offset + j) u u' ?_ ?_
        · rw [← hj]; simp [List.getElem?_take, hj2]
        · rw [← hj']
          rw [Array.getElem?_extract]
          simp
          intro hh
          omega
    · simp only [hag, if_false, Bool.false_eq_true] at e
      obtain ⟨rfl, rfl, cs, hp, hg⟩ := opField_some e
      rw [hp] at hx
      obtain ⟨cs', hx', hv⟩ := hx.agg_inv
      obtain ⟨u, hu', hvr⟩ := hv.get hg
      refine .same r (v' := u) ?_ hvr.weak
      have hg' : cs'[fd.offset]? = some u := by simpa using hu'
      unfold aggT at hag
      rw [hd] at hag
      cases d' <;> simp at hag <;> simp [execOp, ho, Instr.field, run_underlying hu, hf, asAgg, hx', part, isAgg, run_underlying hd, hg']

theorem sim_indexAddr (r : R G ρ h w) (l : Live ρ N Γ a) {t : TypeId} {x i : Operand} (ho : o.op = .indexAddr t x i) (e : aop P G E Γ o.op n h = some (v, n', h')) : Does P G o a w ρ h v h' := by
  rw [ho] at e
  simp only [aop] at e
  have hx := ev_sim r l x
  have hy := ev_sim r l i
  cases hu : P.underlying t with
  | none => simp only [hu] at e; cases e
  | some d =>
  cases d <;> simp only [hu] at e <;> try (cases e; done)
  · rename_i el
    cases hi : P.info? el with
    | none => simp only [hi] at e; cases e
    | some inf =>
    simp only [hi] at e
    obtain ⟨rfl, rfl, b, o', len, cap, k, j, hp, hj, h0, h1, rfl⟩ := opIndexAddr_some e
    rw [hp] at hx
    rw [hj] at hy
    obtain ⟨_, _, L, a', c', hxe, hL, hx', hs⟩ := hx.slice_inv
    cases hxe
    have hcap : c' ≠ 0 := by have := hs.le; omega
    have ha' := hs.at_ hcap
    subst ha'
    refine .same r (v' := .pointer (some ⟨L.blk, L.off + (o' + j.toNat * inf.size), none⟩)) ?_ (VR.ptr _ _ _ hL).weak
    simp [execOp, ho, Instr.indexAt, hy.int_inv, asIntOf, run_underlying hu, hx', h0, h1, sizeOf, typeInfo, hi, addr_add, Nat.add_assoc]
  · rename_i len el
    cases hi : P.info? el with
    | none => simp only [hi] at e; cases e
    | some inf =>
    simp only [hi] at e
    obtain ⟨rfl, rfl, b, o', k, j, hp, hj, h0, h1, rfl⟩ := opIndexAddrA_some e
    rw [hp] at hx
    rw [hj] at hy
    obtain ⟨_, _, L, hxe, hL, hx'⟩ := hx.ptr_inv
    cases hxe
    refine .same r (v' := .pointer (some ⟨L.blk, L.off + (o' + j.toNat * inf.size), none⟩)) ?_ (VR.ptr _ _ _ hL).weak
    simp [execOp, ho, Instr.indexAt, hy.int_inv, asIntOf, run_underlying hu, hx', Instr.sureAddr, h0, h1, sizeOf, typeInfo, hi, addr_add, Nat.add_assoc]

theorem sim_index (r : R G ρ h w) (l : Live ρ N Γ a) {t : TypeId} {x i : Operand} (ho : o.op = .index t x i) (e : aop P G E Γ o.op n h = some (v, n', h')) : Does P G o a w ρ h v h' := by
  rw [ho] at e
  simp only [aop] at e
  have hx := ev_sim r l x
  have hy := ev_sim r l i
  cases hu : P.underlying t with
  | none => simp only [hu] at e; cases e
  | some d =>
  cases d <;> simp only [hu] at e <;> try (cases e; done)
  · obtain ⟨rfl, rfl, s, k, j, b, hp, hj, h0, hb, rfl⟩ := opIndexS_some e
    rw [hp] at hx
    rw [hj] at hy
    refine .same r (v' := .int .u8 b.toNat) ?_ (VR.int _ _).weak
    simp [execOp, ho, Instr.index, hy.int_inv, asIntOf, run_underlying hu, hx.string_inv, h0, hb]
  · rename_i len el
    cases hd : P.underlying el with
    | none => simp only [hd] at e; cases e
    | some d' =>
    cases hi : P.info? el with
    | none => simp only [hd, hi] at e; cases e
    | some inf =>
    simp only [hd, hi] at e
    by_cases hag : aggT P el = true
    · simp only [hag, if_true] at e; cases e
    · simp only [hag, if_false, Bool.false_eq_true] at e
      by_cases h1 : inf.size = 1
      · simp only [h1, if_true] at e
        obtain ⟨rfl, rfl, cs, k, j, hp, hj, h0, hlt, hg⟩ := opIndexA_some e
        rw [hp] at hx
        rw [hj] at hy
        obtain ⟨cs', hx', hv⟩ := hx.agg_inv
        obtain ⟨u, hu', hvr⟩ := hv.get hg
        refine .same r (v' := u) ?_ hvr.weak
        have hg' : cs'[j.toNat]? = some u := by simpa using hu'
        unfold aggT at hag
        rw [hd] at hag
        cases d' <;> simp at hag <;> simp [execOp, ho, Instr.index, hy.int_inv, asIntOf, run_underlying hu, hx', h0, hlt, sizeOf, typeInfo, hi, h1, part, isAgg, run_underlying hd, hg']
      · simp only [h1, if_false] at e; cases e

theorem sim_extract (r : R G ρ h w) (l : Live ρ N Γ a) {x : Operand} {i : Nat} (ho : o.op = .extract x i) (e : aop P G E Γ o.op n h = some (v, n', h')) : Does P G o a w ρ h v h' := by
  rw [ho] at e
  obtain ⟨rfl, rfl, vs, hp, hg, h1⟩ := opExtract_some e
  have hx := ev_sim r l x
  rw [hp] at hx
  rcases hx.tuple_inv with rfl | rfl | ⟨cs', hx', hv⟩
  · simp at hg
  · simp at h1
  · obtain ⟨u, hu', hvr⟩ := hv.get hg
    refine .same r (v' := u) ?_ hvr.weak
    have hg' : cs'[i]? = some u := by simpa using hu'
    simp [execOp, ho, Instr.extract, hx', hg']

theorem sim_not (r : R G ρ h w) (l : Live ρ N Γ a) {t : TypeId} {x : Operand} (ho : o.op = .unOp .not t x) (e : aop P G E Γ o.op n h = some (v, n', h')) : Does P G o a w ρ h v h' := by
  rw [ho] at e
  obtain ⟨rfl, rfl, b, hp, rfl⟩ := opNot_some e
  have hx := ev_sim r l x
  rw [hp] at hx
  exact .same r (v' := .bool (!b)) (by simp [execOp, ho, Op.unary, hx.bool_inv]) (VR.bool _).weak
theorem sim_neg (r : R G ρ h w) (l : Live ρ N Γ a) {t : TypeId} {x : Operand} (ho : o.op = .unOp .neg t x) (e : aop P G E Γ o.op n h = some (v, n', h')) : Does P G o a w ρ h v h' := by
  rw [ho] at e
  obtain ⟨rfl, rfl, k, z, hp, rfl⟩ := opNeg_some e
  have hx := ev_sim r l x
  rw [hp] at hx
  exact .same r (v' := .int k (k.wrap (0 - z))) (by simp [execOp, ho, Op.unary, hx.int_inv, Op.intArith]) (VR.int _ _).weak
theorem sim_com (r : R G ρ h w) (l : Live ρ N Γ a) {t : TypeId} {x : Operand} (ho : o.op = .unOp .xor t x) (e : aop P G E Γ o.op n h = some (v, n', h')) : Does P G o a w ρ h v h' := by
  rw [ho] at e
  obtain ⟨rfl, rfl, k, z, hp, rfl⟩ := opCom_some e
  have hx := ev_sim r l x
  rw [hp] at hx
  exact .same r (v' := .int k _) (by simp [execOp, ho, Op.unary, hx.int_inv, Op.intBits]) (VR.int _ _).weak
theorem sim_convert (r : R G ρ h w) (l : Live ρ N Γ a) {s d : TypeId} {x : Operand} (ho : o.op = .convert s d x) (e : aop P G E Γ o.op n h = some (v, n', h')) : Does P G o a w ρ h v h' := by
  rw [ho] at e
  simp only [aop] at e
  have hx := ev_sim r l x
  cases hs : P.underlying s with
  | none => simp only [hs] at e; cases e
  | some ds =>
  cases hd : P.underlying d with
  | none => simp only [hs, hd] at e; cases e
  | some dd =>
  cases dd <;> simp only [hs, hd] at e <;> try (cases e; done)
  rename_i k
  obtain ⟨rfl, rfl, j, z, hp, rfl⟩ := opConv_some e
  rw [hp] at hx
  exact .same r (v' := .int k (k.wrap z)) (by simp [execOp, ho, convert, run_underlying hs, run_underlying hd, hx.int_inv, Conv.intToInt]) (VR.int _ _).weak
theorem sim_makeFunc (r : R G ρ h w) (l : Live ρ N Γ a) {fn : Fn} {fi cs : Array Operand} (ho : o.op = .makeFunc fn fi cs) (e : aop P G E Γ o.op n h = some (v, n', h')) : Does P G o a w ρ h v h' := by
  rw [ho] at e
  simp only [aop] at e
  by_cases hf : fi.toList.isEmpty = true
  · simp only [hf, if_true] at e
    obtain ⟨rfl, rfl, h1, rfl⟩ := opFunc_some e
    have hv := (WL.map r l cs.toList).strict h1
    have hfi : fi = #[] := by
      have : fi.toList = [] := List.isEmpty_iff.1 hf
      exact Array.toList_eq_nil_iff.1 this
    refine .same r (v' := .func fn #[] (cs.map a.eval)) ?_ (VR.func _ _ _ (by simp) fun i u u' hi hi' => hv.2 i u u' (by simpa using hi) (by simpa using hi')).weak
    simp [execOp, ho, Instr.makeFunc, hfi]
  · simp only [hf, if_false, Bool.false_eq_true] at e; cases e
end
end Go.Fw
