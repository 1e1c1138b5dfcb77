/-
  What each operation of the abstract machine does in a world that the heap speaks of: make, append, calls; and all operations together.
-/
import Derived.Test.YtdomcfoabnhlfaaFwH
namespace Go.Fw

section
variable {P : Program} {G : Nat} {ρ : Map} {h : H} {w : World} {N : Nat} {Γ : List (Nat × Value)} {a : Act} {E : Env} {n n' : Nat} {h' : H} {v : Value} {o : Oper}

theorem opMake_some {bytes : Nat} {z : List Value} {l c : Value} (e : opMake bytes z l c n h = some (v, n', h')) :
    ∃ kl kc b, ∃ i j : Int, l = .int kl i ∧ c = .int kc j ∧ 0 ≤ i ∧ i ≤ j ∧ j ≤ 1099511627776 ∧ bytes * j.toNat ≤ 70368744177664 ∧ new (rep j.toNat z) .own n h = some (b, n', h') ∧ v = .slice (some ⟨b, 0, none⟩) i.toNat j.toNat := by
  obtain ⟨q, hq⟩ : ∃ q, q = opMake bytes z l c := ⟨_, rfl⟩
  rw [← hq] at e
  unfold opMake at hq
  split at hq
  · split at hq
    · rename_i hc
      subst hq
      obtain ⟨b, n1, h1, e1, e2⟩ := bnd_some e
      obtain ⟨rfl, rfl, rfl⟩ := ret_some e2
      exact ⟨_, _, b, _, _, rfl, rfl, hc.1, hc.2.1, hc.2.2.1, hc.2.2.2, e1, rfl⟩
    · subst hq; cases e
  · subst hq; cases e

theorem sim_makeSlice (r : R G ρ h w) (l : Live ρ N Γ a) {t : TypeId} {x y : Operand} (ho : o.op = .makeSlice t x y) (e : aop P G E Γ o.op n h = some (v, n', h')) : Does P G o a w ρ h v h' := by
  rw [ho] at e
  simp only [aop] at e
  have hx := ev_sim r l x
  have hy := ev_sim r l y
  cases hu : P.underlying t with
  | none => simp only [hu] at e; cases e
  | some d =>
  cases d <;> simp only [hu] at e <;> try (cases e; done)
  rename_i el
  cases hie : P.info? el with
  | none => simp only [hie] at e; cases e
  | some inf =>
  cases hz : zeroL P el with
  | none => simp only [hie, hz] at e; cases e
  | some z =>
  simp only [hie, hz] at e
  obtain ⟨i, u, hi, hzu, hc, hzl, hv, _⟩ := zeroL_some (ρ := ρ) hz
  rw [hie] at hi
  cases hi
  obtain ⟨kl, kc, b, i, j, hxe, hye, h0, h1, h2, h3, hn, rfl⟩ := opMake_some e
  rw [hxe] at hx
  rw [hye] at hy
  obtain ⟨rfl, hr, hx', _⟩ := r.new hn (.inl rfl) (hv.rep j.toNat) (rest := []) (fun _ => rfl) el
  simp only [List.append_nil] at hr hx'
  have hjU : j.toNat < U := by unfold U; omega
  refine ⟨_, _, _, .inl ?_, (VR.made (Map.add_same _ _ _) rfl (by omega : i.toNat ≤ j.toNat) hjU).weak, hr, hx'⟩
  have hb : (inf.bytes : Int) * j ≤ 281474976710656 := by
    have : (inf.bytes : Int) * j = ((inf.bytes * j.toNat : Nat) : Int) := by
      rw [Int.natCast_mul]; congr 1; omega
    rw [this]; omega
  have hrun := run_make (P := P) w t el inf u hu hie hzu kl kc i j h0 h1 hb (by omega)
  have hm : madeCells u.cells (j.toNat * inf.size) = (rep j.toNat z).toArray := by
    have := made_cells u.cells j.toNat
    rw [hc] at this
    have hs : u.cells.size = inf.size := by rw [← hzl, ← hc]; simp
    rw [hs] at this
    apply Array.toList_inj.1
    rw [← this]
    unfold madeCells
    rw [hs]
  rw [hm] at hrun
  simp [execOp, ho, hx.int_inv, hy.int_inv, hrun]

/-! ### append -/

/-- The cells of a slice, in the world. -/
theorem cells_sim (r : R G ρ h w) {size : Nat} {p : Option Addr} {k c : Nat} {x' : Value} (hx : VW ρ (.slice p k c) x') {cs : List Value} (e : cellsOf size (.slice p k c) n h = some (cs, n', h')) :
    n' = n ∧ h' = h ∧ cs.length = k * size ∧ ∃ cs', VL ρ cs cs' ∧ (∀ w' : World, w'.heap = w.heap → (Builtin.firstCells size k x').run P w' = .ok cs'.toArray w') ∧
      (k ≠ 0 → ∃ b o L, p = some ⟨b, o, none⟩ ∧ ρ b = some L ∧ ∀ j u, cs'[j]? = some u → w.cell? ⟨L.blk, L.off + o + j, none⟩ = some u) := by
  cases p with
  | none =>
    obtain ⟨rfl, rfl, rfl⟩ := hx.nilslice_inv
    simp only [cellsOf] at e
    obtain ⟨rfl, rfl, rfl⟩ := ret_some e
    exact ⟨rfl, rfl, by simp, [], VL.nil ρ, fun w' _ => by simp [Builtin.firstCells], fun h => absurd rfl h⟩
  | some p =>
    obtain ⟨b, ob, L, a', c', rfl, hL, rfl, hs⟩ := hx.slice_inv
    simp only [cellsOf] at e
    by_cases hk : k = 0
    · subst hk
      simp only [if_true] at e
      obtain ⟨rfl, rfl, rfl⟩ := ret_some e
      refine ⟨rfl, rfl, by simp, [], VL.nil ρ, fun w' _ => ?_, fun h => absurd rfl h⟩
      have := run_firstCells_some (P := P) w' size 0 a' 0 c' [] (by simp) (by simp)
      simpa using this
    · simp only [hk, if_false] at e
      obtain ⟨rfl, rfl, hl, L', hL', cs', hv, hc⟩ := r.rdN e
      rw [hL] at hL'
      cases hL'
      have hc0 : c' ≠ 0 := by have := hs.le; omega
      have ha := hs.at_ hc0
      subst ha
      refine ⟨rfl, rfl, hl, cs', hv, fun w' hw => ?_, fun _ => ⟨b, ob, L, rfl, hL, hc⟩⟩
      exact run_firstCells_some (P := P) w' size k _ k c' cs' (by rw [← hv.1]; exact hl) (fun j u hj => by
        rw [addr_add]
        have := hc j u hj
        unfold World.cell? at this ⊢
        rw [hw]; exact this)

theorem run_app_in {t ut ty el eu : TypeId} {inf : TypeInfo} (ht : P.underlying t = some (.slice el)) (hu : P.underlying ut = some (.slice eu)) (hi : P.info? el = some inf) {b ob len cap k c : Nat} {x : Option Addr} {news : List Value}
    (hf : (Builtin.firstCells inf.size k (.slice x k c)).run P w = .ok news.toArray w) (hroom : len + k ≤ cap)
    (hc : ∀ j, j < news.length → (w.cell? ⟨b, ob + len * inf.size + j, none⟩).isSome = true) (hz : ∀ j, w.frozen? ⟨b, j, none⟩ = false) (h1 : ∀ u ∈ news, u.oneCell' = true) :
    (Builtin.append_ #[t, ut] ty #[.slice (some ⟨b, ob, none⟩) len cap, .slice x k c]).run P w = .ok (.slice (some ⟨b, ob, none⟩) (len + k) cap) (w.setCells b (ob + len * inf.size) news) := by
  have hst := run_storeCells_cells (P := P) b (ob + len * inf.size) news 0 w (by simpa using hc) (fun j _ => hz _) h1
  simp only [Nat.add_zero] at hst
  simp [Builtin.append_, run_underlying ht, run_underlying hu, sizeOf, typeInfo, hi, Builtin.lenOf, hroom, hf, addr_add, hst]

theorem run_app_none {t ut ty el eu : TypeId} {inf : TypeInfo} (ht : P.underlying t = some (.slice el)) (hu : P.underlying ut = some (.slice eu)) (hi : P.info? el = some inf) {s : Option Addr} {len cap c : Nat} {x : Option Addr}
    (hf : (Builtin.firstCells inf.size 0 (.slice x 0 c)).run P w = .ok #[] w) (hle : len ≤ cap) :
    (Builtin.append_ #[t, ut] ty #[.slice s len cap, .slice x 0 c]).run P w = .ok (.slice s len cap) w := by
  cases s with
  | none => simp [Builtin.append_, run_underlying ht, run_underlying hu, sizeOf, typeInfo, hi, Builtin.lenOf, hle, hf]
  | some s => simp [Builtin.append_, run_underlying ht, run_underlying hu, sizeOf, typeInfo, hi, Builtin.lenOf, hle, hf, storeCells]

theorem run_app_grow {t ut ty el eu : TypeId} {inf : TypeInfo} {z : Value} (ht : P.underlying t = some (.slice el)) (hu : P.underlying ut = some (.slice eu)) (hi : P.info? el = some inf) (hz : inf.zero = some z)
    {s x : Option Addr} {len cap k c : Nat} {olds news : List Value} (hfo : (Builtin.firstCells inf.size len (.slice s len cap)).run P w.drew = .ok olds.toArray w.drew) (hf : (Builtin.firstCells inf.size k (.slice x k c)).run P w.drew = .ok news.toArray w.drew)
    (hg : cap < len + k) (h40 : len + k ≤ 1099511627776) (hb : (len + k) * inf.bytes ≤ 70368744177664) :
    (Builtin.append_ #[t, ut] ty #[.slice s len cap, .slice x k c]).run P w = .ok (.slice (some ⟨w.heap.size, 0, none⟩) (len + k) (grownCap w (len + k) cap el))
      (w.drew.alloc (.cells (olds ++ news ++ (Builtin.zeroCells z.cells (grownCap w (len + k) cap el - (len + k))).toList).toArray el)) := by
  have hn : ¬ (len + k ≤ cap) := by omega
  have h63' : ¬ (9223372036854775807 < ((len : Int) + (k : Int))) := by omega
  have hfit := growslice_fits (need := len + k) (old := cap) (bytes := inf.bytes) hg (by omega)
  have h48' : ¬ (281474976710656 < Builtin.nextslicecap (len + k) cap * inf.bytes) := by omega
  simp [Builtin.append_, run_underlying ht, run_underlying hu, sizeOf, typeInfo, zeroValue, hi, hz, Builtin.lenOf, hn, h63', h48', Question.forced, hf, hfo, newRow, grownCap]
  congr 2
  apply Array.toList_inj.1
  simp

theorem does_append {c : Call} (ho : o.op = .call c) (hc : c.callee = .builtin .append) {t ut : TypeId} {s x : Operand} (hta : c.argTypes = #[t, ut]) (hxa : c.args = #[s, x]) {v' : Value} {w' : World}
    (hr : (Builtin.append_ #[t, ut] o.type #[a.eval s, a.eval x]).run P w = .ok v' w') : (execOp a.eval o).run P w = .ok (.value v') w' := by
  simp [execOp, ho, resolve, hc, hta, hxa, invoke, builtin, hr]

/-- What an append comes to, in the three cases. -/
theorem opAppend_some {size bytes : Nat} {s x : Value} (e : opAppend size bytes s x n h = some (v, n', h')) : ∃ p len cap q k c, s = .slice p len cap ∧ x = .slice q k c ∧
    ((k = 0 ∧ n' = n ∧ h' = h ∧ ((p = none ∧ v = .slice none 0 0) ∨ ∃ b ob, p = some ⟨b, ob, none⟩ ∧ v = s)) ∨
     (k ≠ 0 ∧ len + k ≤ 1099511627776 ∧ (len + k) * bytes ≤ 70368744177664 ∧ ∃ news, cellsOf size x n h = some (news, n, h) ∧
       ((cap = U + size ∧ ∃ a0 olds b n1 h1, p = some a0 ∧ cellsOf size s n h = some (olds, n, h) ∧ kill a0.block n h = some ((), n1, h1) ∧ new (olds ++ news) .grow n1 h1 = some (b, n', h') ∧ v = .slice (some ⟨b, 0, none⟩) (len + k) (U + size)) ∨
        (cap ≠ U + size ∧ cap < len + k ∧ ∃ olds b, cellsOf size s n h = some (olds, n, h) ∧ new (olds ++ news) .grow n h = some (b, n', h') ∧ v = .slice (some ⟨b, 0, none⟩) (len + k) (U + size)) ∨
        (len + k ≤ cap ∧ cap < U ∧ ∃ b ob, p = some ⟨b, ob, none⟩ ∧ wrN b (ob + len * size) news n h = some ((), n', h') ∧ v = .slice (some ⟨b, ob, none⟩) (len + k) cap)))) := by
  have hcells : ∀ {y : Value} {cs : List Value} {n1 : Nat} {h1 : H}, cellsOf size y n h = some (cs, n1, h1) → n1 = n ∧ h1 = h := by
    intro y cs n1 h1 e
    obtain ⟨q, hq⟩ : ∃ q, q = cellsOf size y := ⟨_, rfl⟩
    rw [← hq] at e
    unfold cellsOf at hq
    split at hq
    · subst hq; obtain ⟨_, rfl, rfl⟩ := ret_some e; exact ⟨rfl, rfl⟩
    · split at hq
      · subst hq; obtain ⟨_, rfl, rfl⟩ := ret_some e; exact ⟨rfl, rfl⟩
      · subst hq; obtain ⟨rfl, rfl, _⟩ := rdN_some e; exact ⟨rfl, rfl⟩
    · subst hq; cases e
  obtain ⟨q, hq⟩ : ∃ q, q = opAppend size bytes s x := ⟨_, rfl⟩
  rw [← hq] at e
  unfold opAppend at hq
  split at hq
  · rename_i p len cap q' k c
    refine ⟨p, len, cap, q', k, c, rfl, rfl, ?_⟩
    split at hq
    · rename_i hk
      left
      split at hq
      · split at hq
        · subst hq; obtain ⟨rfl, rfl, rfl⟩ := ret_some e; exact ⟨hk, rfl, rfl, .inl ⟨rfl, rfl⟩⟩
        · subst hq; cases e
      · split at hq
        · subst hq; obtain ⟨rfl, rfl, rfl⟩ := ret_some e; exact ⟨hk, rfl, rfl, .inr ⟨_, _, rfl, rfl⟩⟩
        · subst hq; cases e
      · subst hq; cases e
    · rename_i hk
      split at hq
      · rename_i hb
        right
        refine ⟨hk, hb.1, hb.2, ?_⟩
        subst hq
        obtain ⟨news, n1, h1, e1, e2⟩ := bnd_some e
        obtain ⟨rfl, rfl⟩ := hcells e1
        refine ⟨news, e1, ?_⟩
        obtain ⟨q2, hq2⟩ : ∃ q2, q2 = (if cap = U + size then
          (match p with
          | some ⟨b, _, _⟩ => bnd (cellsOf size (.slice p len cap)) fun olds => bnd (kill b) fun _ => bnd (new (olds ++ news) .grow) fun c => ret (.slice (some ⟨c, 0, none⟩) (len + k) (U + size))
          | none => fail)
        else if cap < len + k then bnd (cellsOf size (.slice p len cap)) fun olds => bnd (new (olds ++ news) .grow) fun c => ret (.slice (some ⟨c, 0, none⟩) (len + k) (U + size))
        else if cap < U then
          (match p with
          | some ⟨b, o, none⟩ => bnd (wrN b (o + len * size) news) fun _ => ret (.slice (some ⟨b, o, none⟩) (len + k) cap)
          | _ => fail)
        else fail : M Value) := ⟨_, rfl⟩
        have e2' : q2 n1 h1 = some (v, n', h') := hq2 ▸ e2
        split at hq2
        · rename_i hcap
          left
          refine ⟨hcap, ?_⟩
          split at hq2
          · rename_i b ob sp
            subst hq2
            obtain ⟨olds, n2, h2, e3, e4⟩ := bnd_some e2'
            obtain ⟨rfl, rfl⟩ := hcells e3
            obtain ⟨u, n3, h3, e5, e6⟩ := bnd_some e4
            obtain ⟨c', n4, h4, e7, e8⟩ := bnd_some e6
            obtain ⟨rfl, rfl, rfl⟩ := ret_some e8
            exact ⟨_, olds, c', n3, h3, rfl, e3, e5, e7, rfl⟩
          · subst hq2; cases e2'
        · rename_i hcap
          split at hq2
          · rename_i hlt
            right; left
            subst hq2
            obtain ⟨olds, n2, h2, e3, e4⟩ := bnd_some e2'
            obtain ⟨rfl, rfl⟩ := hcells e3
            obtain ⟨c', n4, h4, e7, e8⟩ := bnd_some e4
            obtain ⟨rfl, rfl, rfl⟩ := ret_some e8
            exact ⟨hcap, hlt, olds, c', e3, e7, rfl⟩
          · rename_i hlt
            split at hq2
            · rename_i hU
              right; right
              split at hq2
              · subst hq2
                obtain ⟨u, n2, h2, e3, e4⟩ := bnd_some e2'
                obtain ⟨rfl, rfl, rfl⟩ := ret_some e4
                exact ⟨by omega, hU, _, _, rfl, e3, rfl⟩
              · subst hq2; cases e2'
            · subst hq2; cases e2'
      · subst hq; cases e
  · subst hq; cases e

theorem firstCells_zero (size : Nat) (x : Option Addr) (c : Nat) : (Builtin.firstCells size 0 (.slice x 0 c)).run P w = .ok #[] w := by
  cases x with
  | none => simp [Builtin.firstCells]
  | some x =>
    have := run_firstCells_some (P := P) w size 0 x 0 c [] (by simp) (by simp)
    simpa using this

theorem VW.slice_any {p : Option Addr} {len cap : Nat} {s' : Value} (h : VW ρ (.slice p len cap) s') : ∃ p' cap', s' = .slice p' len cap' ∧ len ≤ cap' ∧ (cap < U → cap' = cap) := by
  cases p with
  | none => obtain ⟨rfl, rfl, h2⟩ := h.nilslice_inv; exact ⟨none, 0, h2, Nat.le_refl _, fun _ => rfl⟩
  | some p => obtain ⟨_, _, L, a', c', _, _, h2, hs⟩ := h.slice_inv; exact ⟨_, _, h2, hs.le, hs.known⟩

/-- The append that makes a new row. -/
theorem does_grow (r : R G ρ h w) {c : Call} (ho : o.op = .call c) (hc : c.callee = .builtin .append) {t ut el eu : TypeId} {inf : TypeInfo} {z : List Value} (hu : P.underlying t = some (.slice el)) (hut : P.underlying ut = some (.slice eu))
    (hie : P.info? el = some inf) (hz : zeroL P el = some z) {s x : Operand} (hta : c.argTypes = #[t, ut]) (hxa : c.args = #[s, x]) {p' q' : Option Addr} {len cap' k c' : Nat} (hs' : a.eval s = .slice p' len cap') (hx' : a.eval x = .slice q' k c')
    (hg : cap' < len + k) (h40 : len + k ≤ 1099511627776) (hb : (len + k) * inf.bytes ≤ 70368744177664) {olds news olds' news' : List Value} (hvo : VL ρ olds olds') (hvn : VL ρ news news') (hlo : olds.length = len * inf.size) (hln : news.length = k * inf.size)
    (hfo : ∀ w' : World, w'.heap = w.heap → (Builtin.firstCells inf.size len (a.eval s)).run P w' = .ok olds'.toArray w') (hfn : ∀ w' : World, w'.heap = w.heap → (Builtin.firstCells inf.size k (a.eval x)).run P w' = .ok news'.toArray w')
    {h1 : H} {n1 b : Nat} (r1 : R G ρ h1 w) (x1 : Ext ρ h w ρ h1 w) (hn : new (olds ++ news) .grow n1 h1 = some (b, n', h')) : Does P G o a w ρ h (.slice (some ⟨b, 0, none⟩) (len + k) (U + inf.size)) h' := by
  obtain ⟨i, u, hi, hzu, hcz, hzl, _, _⟩ := zeroL_some (ρ := ρ) hz
  rw [hie] at hi
  cases hi
  have hrun := run_app_grow (P := P) (w := w) (ty := o.type) (s := p') (x := q') (len := len) (cap := cap') (k := k) (c := c') hu hut hie hzu (by rw [← hs']; exact hfo w.drew rfl) (by rw [← hx']; exact hfn w.drew rfl) hg h40 hb
  obtain ⟨rfl, hr, hx2, _⟩ := r1.drew.new hn (.inr rfl) (hvo.append hvn) (rest := (Builtin.zeroCells u.cells (grownCap w (len + k) cap' el - (len + k))).toList) (fun h => by cases h) el
  have hlen : (olds' ++ news').length = (len + k) * inf.size := by rw [← (hvo.append hvn).1, List.length_append, hlo, hln, Nat.add_mul]
  have hge := grownCap_ge w (len + k) cap' el
  have hus : u.cells.size = inf.size := by rw [← hzl, ← hcz]; simp
  have hrest : (Builtin.zeroCells u.cells (grownCap w (len + k) cap' el - (len + k))).toList.length = (grownCap w (len + k) cap' el - (len + k)) * inf.size := by
    have := size_zeroCells u.cells (grownCap w (len + k) cap' el - (len + k))
    rw [hus] at this
    simpa using this
  refine ⟨_, _, _, .inl (does_append ho hc hta hxa (by rw [hs', hx']; exact hrun)), VR.weak (.slice _ 0 _ _ _ _ _ (Map.add_same _ _ _) ⟨fun hlt => by unfold U at hlt; omega, hge, fun _ => rfl, fun sz hsz _ => ?_⟩), hr, x1.trans ((Ext.drew _ _ _).trans hx2)⟩
  have : sz = inf.size := by omega
  subst this
  simp only [World.size_drew]
  rw [hlen, hrest]
  simp only [Nat.add_zero, Nat.zero_add]
  rw [← Nat.add_mul]
  congr 1
  omega

theorem sim_append (r : R G ρ h w) (l : Live ρ N Γ a) {c : Call} (ho : o.op = .call c) (hc : c.callee = .builtin .append) (e : aop P G E Γ o.op n h = some (v, n', h')) : Does P G o a w ρ h v h' := by
  rw [ho] at e
  simp only [aop, hc] at e
  cases hts : c.argTypes.toList with
  | nil => simp only [hts] at e; cases e
  | cons t ts =>
  cases ts with
  | nil => simp only [hts] at e; cases e
  | cons ut ts =>
  cases ts with
  | cons _ _ => simp only [hts] at e; cases e
  | nil =>
  cases hxs : c.args.toList with
  | nil => simp only [hts, hxs] at e; cases e
  | cons s xs =>
  cases xs with
  | nil => simp only [hts, hxs] at e; cases e
  | cons x xs =>
  cases xs with
  | cons _ _ => simp only [hts, hxs] at e; cases e
  | nil =>
  simp only [hts, hxs] at e
  have hta : c.argTypes = #[t, ut] := by rw [← Array.toArray_toList (xs := c.argTypes), hts]
  have hxa : c.args = #[s, x] := by rw [← Array.toArray_toList (xs := c.args), hxs]
  have hs := ev_sim r l s
  have hx := ev_sim r l x
  cases hu : P.underlying t with
  | none => simp only [hu] at e; cases e
  | some d =>
  cases hut : P.underlying ut with
  | none => cases d <;> simp only [hu, hut] at e <;> cases e
  | some du =>
  cases d <;> (try (simp only [hu, hut] at e; cases e; done))
  cases du <;> (try (simp only [hu, hut] at e; cases e; done))
  simp only [hu, hut] at e
  rename_i el eu
  cases hie : P.info? el with
  | none => simp only [hie] at e; cases e
  | some inf =>
  cases hz : zeroL P el with
  | none => simp only [hie, hz] at e; cases e
  | some z =>
  simp only [hie, hz] at e
  split at e
  · cases e
  · rename_i hsz
    obtain ⟨p, len, cap, q, k, cx, hse, hxe, hcase⟩ := opAppend_some e
    rw [hse] at hs
    rw [hxe] at hx
    obtain ⟨q', cx', hx', _, _⟩ := hx.slice_any
    rcases hcase with ⟨rfl, rfl, rfl, hv⟩ | ⟨hk, h40, hby, news, hnews, hcase⟩
    · obtain ⟨p', cap', hs', hle, _⟩ := hs.slice_any
      have hrun := run_app_none (P := P) (w := w) (ty := o.type) (s := p') (x := q') (c := cx') hu hut hie (firstCells_zero _ _ _) hle
      refine .same r (v' := .slice p' len cap') (does_append ho hc hta hxa (by rw [hs', hx']; exact hrun)) ?_
      rcases hv with ⟨rfl, rfl⟩ | ⟨b, ob, rfl, rfl⟩
      · obtain ⟨rfl, rfl, h0⟩ := hs.nilslice_inv
        rw [hs'] at h0
        rw [h0]
        exact VR.nilslice.weak
      · rw [hse, ← hs']; exact hs
    · rw [hxe] at hnews
      obtain ⟨_, _, hln, news', hvn, hfn, _⟩ := cells_sim (P := P) r hx hnews
      rcases hcase with ⟨rfl, a0, olds, b, n1, h1, rfl, holds, hkill, hn, rfl⟩ | ⟨hcapU, hlt, olds, b, holds, hn, rfl⟩ | ⟨hroom, hcapU, b, ob, rfl, hw, rfl⟩
      · -- nobody knows how much room there is
        obtain ⟨rfl, ocs, hb0, rfl⟩ := kill_some hkill
        rw [hse] at holds
        obtain ⟨_, _, hlo, olds', hvo, hfo, hat⟩ := cells_sim (P := P) r hs holds
        obtain ⟨b0, ob, L, a', cap', ha0, hL, hs', hsl⟩ := hs.slice_inv
        cases ha0
        by_cases hroom : len + k ≤ cap'
        · have hc0 : cap' ≠ 0 := by omega
          have ha := hsl.at_ hc0
          subst ha
          have hlim := hsl.lim inf.size rfl hc0
          obtain ⟨⟨arr, elem, fz, hobj, hfz, hlimle, hcells⟩, hfits, _⟩ := r.blk b0 ⟨ocs, .grow⟩ L hb0 (by simp [Blk.live]) hL
          have hfz0 := hfz (.inr rfl)
          subst hfz0
          have hbig : len * inf.size + k * inf.size ≤ cap' * inf.size := by rw [← Nat.add_mul]; exact Nat.mul_le_mul_right _ hroom
          have hone : ∀ u ∈ news', u.oneCell' = true := by
            have h1' := (new_some hn).2.2.2.2
            rw [List.all_append, Bool.and_eq_true] at h1'
            exact hvn.one h1'.2
          have hnl : news'.length = k * inf.size := by rw [← hvn.1]; exact hln
          have hol : olds'.length = len * inf.size := by rw [← hvo.1]; exact hlo
          have hrun := run_app_in (P := P) (w := w) (ty := o.type) (b := L.blk) (ob := L.off + ob) (len := len) (cap := cap') (k := k) (c := cx') (x := q') (news := news') hu hut hie (by rw [← hx']; exact hfn w rfl) hroom
            (fun j hj => by
              have : L.off + ob + len * inf.size + j < arr.size := by omega
              simp [World.cell?, hobj, this]) (fun j => by simp [World.frozen?, hobj]) hone
          have hpk := poked_setCells w L.blk (L.off + ob + len * inf.size) news'
          obtain ⟨_, _, _, _, _, hset⟩ := setCells_heap L.blk news' (L.off + ob + len * inf.size) w
          obtain ⟨arr', g1, g2, g3⟩ := hset arr elem (0, 0) hobj
          have hb0m : (⟨ocs, .grow⟩ : Blk).mine := .inr rfl
          have r1 := (r.kill hb0).poke hpk ⟨_, _, _, hobj⟩ (fun b2 B2 L2 hb2 hl2 hL2 hk2 => by
            rw [H.get_set] at hb2
            split at hb2
            · simp only [Option.some.injEq] at hb2; subst hb2; exact absurd rfl hl2
            · rename_i hne
              have := r.apart b2 b0 B2 ⟨ocs, .grow⟩ L2 L hne hb2 hb0 hl2 hb0m hL2 hL
              rcases this with h | h | h
              · exact absurd hk2 h
              · left; omega
              · right; omega)
          obtain ⟨rfl, rfl, hfresh, rfl, _⟩ := new_some hn
          have hρn := (r.kill hb0).fresh hfresh
          have hle := Map.add_le ⟨L.blk, L.off + ob, L.lim⟩ hρn
          have hadd : R G (ρ.add b ⟨L.blk, L.off + ob, L.lim⟩) ((h.set b0 dead).set b ⟨olds ++ news, .grow⟩) (w.setCells L.blk (L.off + ob + len * inf.size) news') := by
            refine r1.add hfresh ⟨⟨arr', elem, (0, 0), g1, fun _ => rfl, by show L.lim ≤ arr'.size; omega, fun i u hiu => ?_⟩, by simp [hlo, hln]; omega, fun h => by cases h⟩ (.inr rfl) (fun b2 B2 L2 hb2 hl2 hL2 => ?_)
            · simp only at hiu ⊢
              rw [g3]
              by_cases hi : i < olds.length
              · rw [List.getElem?_append_left hi] at hiu
                rw [if_neg (by omega)]
                obtain ⟨u', hu', hur⟩ := hvo.get hiu
                have hlen0 : len ≠ 0 := by intro h0; rw [h0] at hlo; simp at hlo; rw [hlo] at hi; simp at hi
                obtain ⟨b3, o3, L3, he3, hL3, hat3⟩ := hat hlen0
                cases he3
                rw [hL] at hL3
                cases hL3
                have := hat3 i u' hu'
                simp [World.cell?, hobj] at this
                exact ⟨u', this, hur.mono hle⟩
              · rw [List.getElem?_append_right (by omega)] at hiu
                obtain ⟨u', hu', hur⟩ := hvn.get hiu
                have hin : i - olds.length < news'.length := (List.getElem?_eq_some_iff.1 hu').1
                rw [if_pos (by omega)]
                exact ⟨u', by rw [show L.off + ob + i - (L.off + ob + len * inf.size) = i - olds.length by omega]; exact hu', hur.mono hle⟩
            · rw [H.get_set] at hb2
              split at hb2
              · simp only [Option.some.injEq] at hb2; subst hb2; exact absurd rfl hl2
              · rename_i hne
                have := r.apart b2 b0 B2 ⟨ocs, .grow⟩ L2 L hne hb2 hb0 hl2 hb0m hL2 hL
                rcases this with h | h | h
                · exact .inl h
                · right; left; show L2.lim ≤ L.off + ob; omega
                · right; right; exact h
          refine ⟨_, _, _, .inl (does_append ho hc hta hxa (by rw [hs', hx']; exact hrun)), VR.weak (.slice b 0 _ _ _ _ ⟨L.blk, L.off + ob, L.lim⟩ (Map.add_same _ _ _) ⟨fun hlt => by omega, hroom, fun _ => rfl, fun sz hszz _ => ?_⟩), hadd,
            ⟨hle, hpk.os, hpk.tape, hpk.output, by rw [hpk.size]; exact Nat.le_refl _, fun kk _ hno => hpk.other kk (fun he => hno ⟨b0, _, L, hb0, .inl hb0m, hL, he.symm⟩), fun kk _ hown => ?_⟩⟩
          · have : sz = inf.size := by omega
            subst this
            simp only [Nat.add_zero]; exact hlim
          · obtain ⟨c2, C2, M2, hc2, hm2, hM2, hk2⟩ := hown
            rw [H.get_set] at hc2
            unfold Map.add at hM2
            split at hc2
            · rename_i he
              rw [if_pos he] at hM2
              simp only [Option.some.injEq] at hM2
              subst hM2
              exact ⟨b0, _, L, hb0, .inl hb0m, hL, hk2⟩
            · rename_i hne
              rw [if_neg hne] at hM2
              rw [H.get_set] at hc2
              split at hc2
              · simp only [Option.some.injEq] at hc2; subst hc2
                rcases hm2 with hm2 | hm2
                · exact absurd rfl hm2.live
                · exact absurd hm2 not_map_dead
              · exact ⟨c2, C2, M2, hc2, hm2, hM2, hk2⟩
        · exact does_grow r ho hc hu hut hie hz hta hxa hs' hx' (by omega) h40 hby hvo hvn hlo hln hfo hfn (r.kill hb0) (Ext.kill _ _ _ _) hn
      · rw [hse] at holds
        obtain ⟨_, _, hlo, olds', hvo, hfo, _⟩ := cells_sim (P := P) r hs holds
        obtain ⟨p', cap', hs', hle, hkn⟩ := hs.slice_any
        have hcap : cap' = cap := hkn (by unfold U; omega)
        subst hcap
        exact does_grow r ho hc hu hut hie hz hta hxa hs' hx' hlt h40 hby hvo hvn hlo hln hfo hfn r (Ext.refl _ _ _) hn
      · obtain ⟨b', ob', L, a', cap', hbe, hL, hs', hsl⟩ := hs.slice_inv
        cases hbe
        have hcap := hsl.known hcapU
        subst hcap
        have ha := hsl.at_ (by omega)
        subst ha
        obtain ⟨rfl, L', hL', hr, hex, hcells, hfz, hone⟩ := r.wrN hw hvn
        rw [hL] at hL'
        cases hL'
        have hrun := run_app_in (P := P) (w := w) (ty := o.type) (b := L.blk) (ob := L.off + ob) (len := len) (cap := cap') (k := k) (c := cx') (x := q') (news := news') hu hut hie (by rw [← hx']; exact hfn w rfl) hroom
          (fun j hj => by have := hcells j hj; rw [← Nat.add_assoc] at this; exact this) hfz hone
        rw [← Nat.add_assoc] at hr hex
        exact ⟨_, ρ, _, .inl (does_append ho hc hta hxa (by rw [hs', hx']; exact hrun)), VR.weak (.slice _ _ _ _ _ _ L hL ⟨fun _ => rfl, hroom, hsl.at_, fun sz hszz => hsl.lim sz hszz⟩), hr, hex⟩
end
end Go.Fw
