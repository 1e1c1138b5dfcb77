/-
  What each operation of the abstract machine does in a world that the heap speaks of.
-/
import Derived.Test.YtdomcfoabnhlfaaFwC
namespace Go.Fw
open Go.RowKit (Below)

/-- The temporaries that are known. -/
structure Live (ρ : Map) (N : Nat) (Γ : List (Nat × Value)) (a : Act) : Prop where
  size : a.tmps.size = N
  at_ : ∀ t, VW ρ (look Γ t) (a.tmps.getD t undef)

theorem Live.mono {ρ ρ' : Map} (h : Le ρ ρ') {N : Nat} {Γ : List (Nat × Value)} {a : Act} (l : Live ρ N Γ a) : Live ρ' N Γ a := ⟨l.size, fun t => (l.at_ t).mono h⟩

theorem Live.put {ρ : Map} {N : Nat} {Γ : List (Nat × Value)} {a : Act} (l : Live ρ N Γ a) {d : Nat} (hd : d < N) {v v' : Value} (h : VW ρ v v') : Live ρ N ((d, v) :: Γ) (a.put (some d) v') := by
  refine ⟨by simp [Act.put, l.size], fun t => ?_⟩
  simp only [look, Act.put]
  by_cases e : t = d
  · subst e
    rw [if_pos rfl]
    have : t < a.tmps.size := by rw [l.size]; exact hd
    simp [this]
    exact h
  · rw [if_neg e]
    have := l.at_ t
    rw [Array.getD_eq_getD_getElem?] at this ⊢
    rw [Array.getElem?_setIfInBounds_ne (Ne.symm e)]
    exact this

theorem VR.of_okC0 {ρ : Map} {v : Value} (h : okC0 v = true) : VR ρ v v := by
  unfold okC0 at h
  split at h <;> first | exact .bool _ | exact .int _ _ | exact .string _ | exact .nilptr | exact .nilslice | exact .nilFunc | exact .nilIface | exact .nilmap | cases h

theorem VR.of_okC {ρ : Map} {v : Value} (h : okC v = true) : VR ρ v v := by
  cases v with
  | agg cs =>
    refine .agg cs cs rfl fun i v v' hv hv' => ?_
    rw [hv] at hv'
    cases hv'
    exact .of_okC0 (List.all_eq_true.1 h v (by
      have := Array.mem_of_getElem? hv
      exact Array.mem_toList_iff.2 this))
  | _ => exact .of_okC0 h

section
variable {P : Program} {G : Nat} {ρ : Map} {h : H} {w : World} {N : Nat} {Γ : List (Nat × Value)} {a : Act}

theorem ev_sim (r : R G ρ h w) (l : Live ρ N Γ a) (x : Operand) : VW ρ (ev G Γ x) (a.eval x) := by
  cases x with
  | tmp t => exact l.at_ t
  | const v =>
    simp only [ev, Act.eval]
    split
    · exact (VR.of_okC (by assumption)).weak
    · exact .inl (.inl rfl)
  | global g =>
    simp only [ev, Act.eval]
    split
    · rename_i hg
      obtain ⟨lim, hl⟩ := r.glob g hg
      have := VR.ptr (ρ := ρ) g 0 _ hl
      exact this.weak
    · exact .inl (.inl rfl)
  | func f => exact (VR.func _ _ _ rfl (by simp)).weak

/-! ### Looks into values that are alike -/

theorem VW.bool_inv {b : Bool} {v' : Value} (h : VW ρ (.bool b) v') : v' = .bool b := by
  rcases h with (h | ⟨h, _⟩) | h
  · cases h
  · cases h
  · cases h; rfl
theorem VW.int_inv {k : IntKind} {n : Int} {v' : Value} (h : VW ρ (.int k n) v') : v' = .int k n := by
  rcases h with (h | ⟨h, _⟩) | h
  · cases h
  · cases h
  · cases h; rfl
theorem VW.string_inv {s : ByteArray} {v' : Value} (h : VW ρ (.string s) v') : v' = .string s := by
  rcases h with (h | ⟨h, _⟩) | h
  · cases h
  · cases h
  · cases h; rfl
theorem VW.nilptr_inv {v' : Value} (h : VW ρ (.pointer none) v') : v' = .pointer none := by
  rcases h with (h | ⟨h, _⟩) | h
  · cases h
  · cases h
  · cases h; rfl
theorem VW.ptr_inv {x : Addr} {v' : Value} (h : VW ρ (.pointer (some x)) v') : ∃ b o L, x = ⟨b, o, none⟩ ∧ ρ b = some L ∧ v' = .pointer (some ⟨L.blk, L.off + o, none⟩) := by
  rcases h with (h | ⟨h, _⟩) | h
  · cases h
  · cases h
  · cases h with | ptr b o L hb => exact ⟨b, o, L, rfl, hb, rfl⟩
theorem VW.nilslice_inv {n c : Nat} {v' : Value} (h : VW ρ (.slice none n c) v') : n = 0 ∧ c = 0 ∧ v' = .slice none 0 0 := by
  rcases h with (h | ⟨h, _⟩) | h
  · cases h
  · cases h
  · cases h; exact ⟨rfl, rfl, rfl⟩
theorem VW.slice_inv {x : Addr} {n c : Nat} {v' : Value} (h : VW ρ (.slice (some x) n c) v') : ∃ b o L a' c', x = ⟨b, o, none⟩ ∧ ρ b = some L ∧ v' = .slice (some a') n c' ∧ SL L o n c a' c' := by
  rcases h with (h | ⟨h, _⟩) | h
  · cases h
  · cases h
  · cases h with | slice b o len cap a' cap' L hb hs => exact ⟨b, o, L, a', cap', rfl, hb, rfl, hs⟩
theorem VW.agg_inv {cs : Array Value} {v' : Value} (h : VW ρ (.agg cs) v') : ∃ cs', v' = .agg cs' ∧ VL ρ cs.toList cs'.toList := by
  rcases h with (h | ⟨h, _⟩) | h
  · cases h
  · cases h
  · cases h with | agg _ cs' hs hv => exact ⟨cs', rfl, by simpa using hs, fun i v v' a b => hv i v v' (by simpa using a) (by simpa using b)⟩
theorem VW.tuple_inv {cs : Array Value} {v' : Value} (h : VW ρ (.tuple cs) v') : cs = #[] ∨ cs = #[.nilFunc] ∨ ∃ cs', v' = .tuple cs' ∧ VL ρ cs.toList cs'.toList := by
  rcases h with (h | ⟨h, _⟩) | h
  · left; unfold undef at h; cases h; rfl
  · right; left; unfold skipV at h; cases h; rfl
  · right; right
    cases h with | tuple _ cs' hs hv => exact ⟨cs', rfl, by simpa using hs, fun i v v' a b => hv i v v' (by simpa using a) (by simpa using b)⟩
theorem VW.func_inv {fn : Fn} {fi cs : Array Value} {v' : Value} (h : VW ρ (.func fn fi cs) v') : fi = #[] ∧ ∃ cs', v' = .func fn #[] cs' ∧ VL ρ cs.toList cs'.toList := by
  rcases h with (h | ⟨h, _⟩) | h
  · cases h
  · cases h
  · cases h with | func _ _ cs' hs hv => exact ⟨rfl, cs', rfl, by simpa using hs, fun i v v' a b => hv i v v' (by simpa using a) (by simpa using b)⟩
theorem VW.iface_inv {t : TypeId} {v v' : Value} (h : VW ρ (.iface t v) v') : ∃ u, v' = .iface t u ∧ VR ρ v u := by
  rcases h with (h | ⟨h, _⟩) | h
  · cases h
  · cases h
  · cases h with | iface _ _ u hu => exact ⟨u, rfl, hu⟩

theorem VL.agg {cs cs' : List Value} (h : VL ρ cs cs') : VR ρ (.agg cs.toArray) (.agg cs'.toArray) :=
  .agg _ _ (by simpa using h.1) fun i v v' a b => h.2 i v v' (by simpa using a) (by simpa using b)

/-- Lists of values of which some may not be known. -/
def WL (ρ : Map) (vs vs' : List Value) : Prop := vs.length = vs'.length ∧ ∀ (i : Nat) v v', vs[i]? = some v → vs'[i]? = some v' → VW ρ v v'
theorem WL.strict {vs vs' : List Value} (h : WL ρ vs vs') (h1 : vs.all one = true) : VL ρ vs vs' :=
  ⟨h.1, fun i v v' a b => (h.2 i v v' a b).strict (List.all_eq_true.1 h1 v (List.mem_of_getElem? a))⟩
theorem WL.map (r : R G ρ h w) (l : Live ρ N Γ a) (xs : List Operand) : WL ρ (xs.map (ev G Γ)) (xs.map a.eval) := by
  refine ⟨by simp, fun i v v' hv hv' => ?_⟩
  simp only [List.getElem?_map] at hv hv'
  cases hx : xs[i]? with
  | none => simp [hx] at hv
  | some x => simp [hx] at hv hv'; subst hv hv'; exact ev_sim r l x
theorem WL.cons {v v' : Value} {vs vs' : List Value} (h : VW ρ v v') (hs : WL ρ vs vs') : WL ρ (v :: vs) (v' :: vs') := by
  refine ⟨by simp [hs.1], fun i u u' hu hu' => ?_⟩
  cases i with
  | zero => simp at hu hu'; subst hu hu'; exact h
  | succ i => exact hs.2 i u u' (by simpa using hu) (by simpa using hu')
theorem WL.nil : WL ρ [] [] := ⟨rfl, by simp⟩
theorem WL.head {v : Value} {vs vs' : List Value} (hs : WL ρ (v :: vs) vs') : ∃ u us, vs' = u :: us ∧ VW ρ v u ∧ WL ρ vs us := by
  cases vs' with
  | nil => have := hs.1; simp at this
  | cons u us => exact ⟨u, us, rfl, hs.2 0 v u rfl rfl, by simpa using hs.1, fun i x y hx hy => hs.2 (i + 1) x y (by simpa using hx) (by simpa using hy)⟩
theorem VL.weak {vs vs' : List Value} (h : VL ρ vs vs') : WL ρ vs vs' := ⟨h.1, fun i v v' a b => (h.2 i v v' a b).weak⟩
theorem WL.append {a a' b b' : List Value} (h : WL ρ a a') (k : WL ρ b b') : WL ρ (a ++ b) (a' ++ b') := by
  refine ⟨by simp [h.1, k.1], fun i v v' hv hv' => ?_⟩
  by_cases hi : i < a.length
  · rw [List.getElem?_append_left hi] at hv
    rw [List.getElem?_append_left (h.1 ▸ hi)] at hv'
    exact h.2 i v v' hv hv'
  · rw [List.getElem?_append_right (by omega)] at hv
    rw [List.getElem?_append_right (by have := h.1; omega), ← h.1] at hv'
    exact k.2 _ v v' hv hv'
theorem WL.mono {ρ' : Map} (h : Le ρ ρ') {vs vs' : List Value} (hs : WL ρ vs vs') : WL ρ' vs vs' := ⟨hs.1, fun i v v' a b => (hs.2 i v v' a b).mono h⟩

/-! ### What an operation's answer tells of its operands -/

theorem opLoad_some {x : Value} {n : Nat} {h : H} {z : Value × Nat × H} (e : opLoad x n h = some z) : ∃ b o, x = .pointer (some ⟨b, o, none⟩) ∧ rd b o n h = some z := by
  obtain ⟨m, hm⟩ : ∃ m, m = opLoad x := ⟨_, rfl⟩
  rw [← hm] at e
  unfold opLoad at hm
  split at hm
  · subst hm; exact ⟨_, _, rfl, e⟩
  · subst hm; cases e
theorem opLoadN_some {k : Nat} {x : Value} {n : Nat} {h : H} {z : Value × Nat × H} (e : opLoadN k x n h = some z) : ∃ b o, x = .pointer (some ⟨b, o, none⟩) ∧ bnd (rdN b o k) (fun cs => ret (.agg cs.toArray)) n h = some z := by
  obtain ⟨m, hm⟩ : ∃ m, m = opLoadN k x := ⟨_, rfl⟩
  rw [← hm] at e
  unfold opLoadN at hm
  split at hm
  · subst hm; exact ⟨_, _, rfl, e⟩
  · subst hm; cases e
theorem opStore_some {x v : Value} {n : Nat} {h : H} {z : Value × Nat × H} (e : opStore x v n h = some z) : ∃ b o, x = .pointer (some ⟨b, o, none⟩) ∧ bnd (wr1 b o v) (fun _ => ret undef) n h = some z := by
  obtain ⟨m, hm⟩ : ∃ m, m = opStore x v := ⟨_, rfl⟩
  rw [← hm] at e
  unfold opStore at hm
  split at hm
  · subst hm; exact ⟨_, _, rfl, e⟩
  · subst hm; cases e
theorem opStoreN_some {k : Nat} {x v : Value} {n : Nat} {h : H} {z : Value × Nat × H} (e : opStoreN k x v n h = some z) :
    ∃ b o cs, x = .pointer (some ⟨b, o, none⟩) ∧ v = .agg cs ∧ cs.size = k ∧ bnd (wrN b o cs.toList) (fun _ => ret undef) n h = some z := by
  obtain ⟨m, hm⟩ : ∃ m, m = opStoreN k x v := ⟨_, rfl⟩
  rw [← hm] at e
  unfold opStoreN at hm
  split at hm
  · split at hm
    · subst hm; exact ⟨_, _, _, rfl, rfl, by assumption, e⟩
    · subst hm; cases e
  · subst hm; cases e

/-! ### What an operation does -/

/-- The operation's run in the world: a value and a world, alike to what the abstract machine gave. -/
def Does (P : Program) (G : Nat) (o : Oper) (a : Act) (w : World) (ρ : Map) (h : H) (v : Value) (h' : H) : Prop :=
  ∃ v' ρ' w', ((execOp a.eval o).run P w = .ok (.value v') w' ∨ ((execOp a.eval o).run P w = .ok .skip w' ∧ v' = undef)) ∧ VW ρ' v v' ∧ R G ρ' h' w' ∧ Ext ρ h w ρ' h' w'

theorem Does.same {o : Oper} {v : Value} (r : R G ρ h w) {v' : Value} (hr : (execOp a.eval o).run P w = .ok (.value v') w) (hv : VW ρ v v') : Does P G o a w ρ h v h :=
  ⟨v', ρ, w, .inl hr, hv, r, Ext.refl _ _ _⟩

theorem ret_some {α : Type} {x v : α} {n n' : Nat} {h h' : H} (e : ret x n h = some (v, n', h')) : v = x ∧ n' = n ∧ h' = h := by
  simp only [ret, Option.some.injEq, Prod.mk.injEq] at e
  exact ⟨e.1.symm, e.2.1.symm, e.2.2.symm⟩
theorem fail_some {α : Type} {v : α} {n n' : Nat} {h h' : H} (e : (fail : M α) n h = some (v, n', h')) : False := by cases e

theorem cells_agg (cs : Array Value) : (Value.agg cs).cells = cs := rfl

/-- A new block of the call's own, and the pointer to it. -/
theorem sim_ptr (r : R G ρ h w) {cs cs' : List Value} (hv : WL ρ cs cs') {n n' : Nat} {h' : H} {v : Value} (e : opPtr cs n h = some (v, n', h')) (t : TypeId) :
    ∃ ρ' v', VR ρ' v v' ∧ R G ρ' h' (w.alloc (.cells cs'.toArray t)) ∧ Ext ρ h w ρ' h' (w.alloc (.cells cs'.toArray t)) ∧ v' = .pointer (some ⟨w.heap.size, 0, none⟩) := by
  obtain ⟨b, n1, h1, e1, e2⟩ := bnd_some e
  obtain ⟨rfl, rfl, rfl⟩ := ret_some e2
  have h1' : cs.all one = true := (new_some e1).2.2.2.2
  obtain ⟨rfl, hr, hx, _⟩ := r.new e1 (.inl rfl) (hv.strict h1') (rest := []) (fun _ => rfl) t
  simp only [List.append_nil] at hr hx
  exact ⟨_, _, .ptr _ 0 _ (Map.add_same _ _ _), hr, hx, rfl⟩

theorem run_loadVar_one {t : TypeId} {x : Addr} {u : Value} {d : TypeDesc} (hu : P.underlying t = some d) (ha : aggT P t = false) (hc : w.cell? x = some u) :
    (loadVar t x).run P w = .ok u w := by
  unfold aggT at ha
  rw [hu] at ha
  cases d <;> simp_all [loadVar, isAgg, run_underlying hu]

theorem run_loadVar_agg {t : TypeId} {x : Addr} {cs : List Value} {i : TypeInfo} (ha : aggT P t = true) (hi : P.info? t = some i) (hs : cs.length = i.size)
    (hc : ∀ j u, cs[j]? = some u → w.cell? (x.add j) = some u) : (loadVar t x).run P w = .ok (.agg cs.toArray) w := by
  unfold aggT at ha
  have hl := run_loadCells_list (P := P) w x cs hc
  rw [hs] at hl
  cases hu : P.underlying t with
  | none => simp [hu] at ha
  | some d =>
    rw [hu] at ha
    cases d <;> simp_all [loadVar, isAgg, run_underlying hu, sizeOf, typeInfo]

theorem addr_add (b o j : Nat) : (⟨b, o, none⟩ : Addr).add j = ⟨b, o + j, none⟩ := by unfold Addr.add; split <;> simp_all

theorem sim_load (r : R G ρ h w) (l : Live ρ N Γ a) {o : Oper} {t : TypeId} {x : Operand} (ho : o.op = .load t x) {E : Env} {n n' : Nat} {h' : H} {v : Value}
    (e : aop P G E Γ o.op n h = some (v, n', h')) : Does P G o a w ρ h v h' := by
  rw [ho] at e
  simp only [aop] at e
  have hx := ev_sim r l x
  cases hu : P.underlying t with
  | none => simp only [hu] at e; cases e
  | some d =>
  cases hi : P.info? t with
  | none => simp only [hu, hi] at e; cases e
  | some i =>
    simp only [hu, hi] at e
    by_cases hag : aggT P t = true
    · simp only [hag, if_true] at e
      obtain ⟨b, o', hb, e⟩ := opLoadN_some e
      rw [hb] at hx
      obtain ⟨_, _, L, hxe, hL, hv'⟩ := hx.ptr_inv
      cases hxe
      obtain ⟨cs, n1, h1, e1, e2⟩ := bnd_some e
      obtain ⟨rfl, rfl, rfl⟩ := ret_some e2
      obtain ⟨rfl, rfl, hk, L', hL', vs', hvs, hc⟩ := r.rdN e1
      rw [hL] at hL'
      cases hL'
      refine Does.same r (v' := .agg vs'.toArray) ?_ hvs.agg.weak
      have := run_loadVar_agg (P := P) (w := w) (x := ⟨L.blk, L.off + o', none⟩) (cs := vs') hag hi (by rw [← hvs.1]; exact hk) (fun j u hj => by rw [addr_add]; exact hc j u hj)
      simp [execOp, ho, Instr.loadAt, Instr.sureAddr, hv', this]
    · simp only [hag, if_false, Bool.false_eq_true] at e
      obtain ⟨b, o', hb, e⟩ := opLoad_some e
      rw [hb] at hx
      obtain ⟨_, _, L, hxe, hL, hv'⟩ := hx.ptr_inv
      cases hxe
      obtain ⟨rfl, rfl, L', hL', v', hvr, hc⟩ := r.rd e
      rw [hL] at hL'
      cases hL'
      refine Does.same r (v' := v') ?_ hvr.weak
      have := run_loadVar_one (P := P) (t := t) hu (by simpa using hag) hc
      simp [execOp, ho, Instr.loadAt, Instr.sureAddr, hv', this]

theorem run_storeVar_any {t : TypeId} {b o : Nat} {v : Value} {i : TypeInfo} (hi : P.info? t = some i) (hs : v.cells.size = i.size)
    (hc : ∀ j, j < v.cells.toList.length → (w.cell? ⟨b, o + j, none⟩).isSome = true) (hf : ∀ j, w.frozen? ⟨b, j, none⟩ = false) (h1 : ∀ u ∈ v.cells.toList, u.oneCell' = true) :
    (storeVar t ⟨b, o, none⟩ v).run P w = .ok () (w.setCells b o v.cells.toList) := by
  have := run_storeCells_cells (P := P) b o v.cells.toList 0 w (by simpa using hc) (fun j _ => hf _) h1
  simp only [Nat.add_zero] at this
  simp [storeVar, sizeOf, typeInfo, hi, hs, this]

theorem sim_store (r : R G ρ h w) (l : Live ρ N Γ a) {o : Oper} {t : TypeId} {x y : Operand} (ho : o.op = .store t x y) {E : Env} {n n' : Nat} {h' : H} {v : Value}
    (e : aop P G E Γ o.op n h = some (v, n', h')) : Does P G o a w ρ h v h' := by
  rw [ho] at e
  simp only [aop] at e
  have hx := ev_sim r l x
  have hy := ev_sim r l y
  cases hi : P.info? t with
  | none => simp only [hi] at e; cases e
  | some i =>
    simp only [hi] at e
    split at e
    · obtain ⟨b, o', cs, hb, hcs, hsz, e⟩ := opStoreN_some e
      rw [hb] at hx
      rw [hcs] at hy
      obtain ⟨_, _, L, hxe, hL, hv'⟩ := hx.ptr_inv
      cases hxe
      obtain ⟨cs', hy', hvl⟩ := hy.agg_inv
      obtain ⟨u, n1, h1, e1, e2⟩ := bnd_some e
      obtain ⟨rfl, rfl, rfl⟩ := ret_some e2
      obtain ⟨rfl, L', hL', hr, hex, hc, hf, h1'⟩ := r.wrN e1 hvl
      rw [hL] at hL'
      cases hL'
      refine ⟨undef, ρ, _, .inr ⟨?_, rfl⟩, .inl (.inl rfl), hr, hex⟩
      have := run_storeVar_any (P := P) (t := t) (b := L.blk) (o := L.off + o') (v := .agg cs') hi (by have := hvl.1; simp at this; rw [cells_agg, ← this]; exact hsz) hc hf h1'
      simp [execOp, ho, Instr.storeAt, Instr.sureAddr, hv', hy', this, cells_agg]
    · split at e
      · rename_i hsz
        obtain ⟨b, o', hb, e⟩ := opStore_some e
        rw [hb] at hx
        obtain ⟨_, _, L, hxe, hL, hv'⟩ := hx.ptr_inv
        cases hxe
        obtain ⟨u, n1, h1, e1, e2⟩ := bnd_some e
        obtain ⟨rfl, rfl, rfl⟩ := ret_some e2
        have e1' := wr1_some e1
        have hone : one (ev G Γ y) = true := by
          have := (wrN_some e1').2
          obtain ⟨_, _, _, _, _, h⟩ := this
          simpa using h
        have hyr := hy.strict hone
        obtain ⟨rfl, L', hL', hr, hex, hc, hf, h1'⟩ := r.wrN e1' (VL.cons hyr (VL.nil ρ))
        rw [hL] at hL'
        cases hL'
        refine ⟨undef, ρ, _, .inr ⟨?_, rfl⟩, .inl (.inl rfl), hr, hex⟩
        have hcy : (a.eval y).cells = #[a.eval y] := cells_of_one (by rw [hyr.one]; exact hone)
        have := run_storeVar_any (P := P) (t := t) (b := L.blk) (o := L.off + o') (v := a.eval y) hi (by rw [hcy]; simpa using hsz.symm) (by rw [hcy]; exact hc) hf (by rw [hcy]; exact h1')
        rw [hcy] at this
        simp [execOp, ho, Instr.storeAt, Instr.sureAddr, hv', this]
      · cases e
end
end Go.Fw
