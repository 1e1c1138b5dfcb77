/-
  slices.Sort at numbers, said of the abstract machine: out of the library's contract for it.
-/
import Derived.Test.YtddafkflndhnfaaDoorFwJ
import Derived.Test.YtddafkflndhnfaaDoorFwR
import Derived.Lib.SortBridge
namespace Go.Fw
open Go.Sort

theorem R.heapMore {G : Nat} {ρ : Map} {h : H} {w w' : World} (r : R G ρ h w) (hk : ∀ k, k < w.heap.size → w'.heap[k]? = w.heap[k]?) : R G ρ h w' := by
  refine ⟨r.dom, r.glob, fun b B L hb hl hL => ?_, r.apart⟩
  obtain ⟨⟨arr, elem, fz, ho, hf, hlim, hc⟩, hfits, hex⟩ := r.blk b B L hb hl hL
  refine ⟨⟨arr, elem, fz, ?_, hf, hlim, hc⟩, hfits, hex⟩
  rw [hk _ (Array.getElem?_eq_some_iff.1 ho).1]; exact ho

theorem Ext.heapMore {ρ : Map} {h : H} {w w' : World} (hs : w.heap.size ≤ w'.heap.size) (hk : ∀ k, k < w.heap.size → w'.heap[k]? = w.heap[k]?) (h1 : w'.os = w.os) (h2 : w'.tape = w.tape) (h3 : w'.output = w.output) : Ext ρ h w ρ h w' :=
  ⟨Le.refl _, h1, h2, h3, hs, fun k hk' _ => hk k hk', fun _ _ h => h⟩

theorem grow_at (w : World) (os : Array Obj) (k : Nat) (hk : k < w.heap.size) : (grow w os).heap[k]? = w.heap[k]? := by
  show (w.heap ++ os)[k]? = _
  rw [Array.getElem?_append_left hk]
theorem grow_size (w : World) (os : Array Obj) : w.heap.size ≤ (grow w os).heap.size := by
  show _ ≤ (w.heap ++ os).size
  rw [Array.size_append]; omega

/-- Numbers, and nothing else. -/
def intsOf : List Value → Option (List Int)
  | [] => some []
  | .int .i64 z :: r => (intsOf r).map (z :: ·)
  | _ => none
theorem intsOf_some : ∀ {vs : List Value} {zs : List Int}, intsOf vs = some zs → vs = zs.map i64
  | [], zs, e => by simp only [intsOf, Option.some.injEq] at e; subst e; rfl
  | v :: r, zs, e => by
    unfold intsOf at e
    split at e
    · rename_i h; cases h
    · rename_i z r' h
      simp only [List.cons.injEq] at h
      obtain ⟨rfl, rfl⟩ := h
      rw [Option.map_eq_some_iff] at e
      obtain ⟨ys, h1, rfl⟩ := e
      rw [intsOf_some h1]; rfl
    · cases e
theorem intsOf_ints : ∀ (zs : List Int), intsOf (zs.map i64) = some zs
  | [] => rfl
  | z :: r => by show (intsOf (r.map i64)).map _ = _; rw [intsOf_ints r]; rfl

/-! ## Sorting, plainly -/

def insBy {α : Type} (key : α → Int) (x : α) : List α → List α
  | [] => [x]
  | y :: r => if key x ≤ key y then x :: y :: r else y :: insBy key x r
def sortBy {α : Type} (key : α → Int) : List α → List α
  | [] => []
  | x :: r => insBy key x (sortBy key r)

theorem insBy_perm {α : Type} (key : α → Int) (x : α) : ∀ l, (insBy key x l).Perm (x :: l)
  | [] => .refl _
  | y :: r => by
    unfold insBy
    split
    · exact .refl _
    · exact ((insBy_perm key x r).cons y).trans (List.Perm.swap _ _ _)
theorem sortBy_perm {α : Type} (key : α → Int) : ∀ l, (sortBy key l).Perm l
  | [] => .refl _
  | x :: r => (insBy_perm key x _).trans ((sortBy_perm key r).cons x)
theorem insBy_pw {α : Type} (key : α → Int) (x : α) : ∀ l : List α, l.Pairwise (fun a b => key a ≤ key b) → (insBy key x l).Pairwise fun a b => key a ≤ key b
  | [], _ => List.pairwise_singleton _ _
  | y :: r, h => by
    unfold insBy
    rw [List.pairwise_cons] at h
    split
    · rename_i hxy
      refine List.pairwise_cons.2 ⟨fun z hz => ?_, List.pairwise_cons.2 h⟩
      rcases List.mem_cons.1 hz with rfl | hz
      · exact hxy
      · have := h.1 z hz; omega
    · rename_i hxy
      refine List.pairwise_cons.2 ⟨fun z hz => ?_, insBy_pw key x r h.2⟩
      rcases List.mem_cons.1 ((insBy_perm key x r).mem_iff.1 hz) with rfl | hz
      · omega
      · exact h.1 z hz
theorem sortBy_pw {α : Type} (key : α → Int) : ∀ l : List α, (sortBy key l).Pairwise fun a b => key a ≤ key b
  | [] => List.Pairwise.nil
  | x :: r => insBy_pw key x _ (sortBy_pw key r)

abbrev sortI (zs : List Int) : List Int := sortBy id zs
theorem sortI_merge (zs : List Int) : (zs.mergeSort fun x y => decide (x ≤ y)) = sortI zs := by
  refine List.Perm.eq_of_pairwise (le := fun a b : Int => decide (a ≤ b) = true) (fun a b _ _ h1 h2 => by simp only [decide_eq_true_eq] at h1 h2; omega)
    (List.pairwise_mergeSort (fun a b c h1 h2 => by simp only [decide_eq_true_eq] at *; omega) (fun a b => by simp only [Bool.or_eq_true, decide_eq_true_eq]; omega) zs)
    ((sortBy_pw id zs).imp fun {a b} h => decide_eq_true h) ((List.mergeSort_perm zs _).trans (sortBy_perm id zs).symm)

def sortM (x : Value) : M Value :=
  match x with
  | .slice (some ⟨b, o, none⟩) n _ => if n = 0 ∨ 1000000 < n then fail else bnd (rdN b o n) fun vs =>
    match intsOf vs with
    | some zs => bnd (wrN b o ((sortI zs).map i64)) fun _ => ret undef
    | none => fail
  | _ => fail
def sortL : List Value → M Value
  | [x] => sortM x
  | _ => fail

theorem VL.ints {ρ : Map} : ∀ {zs : List Int} {vs' : List Value}, VL ρ (zs.map i64) vs' → vs' = zs.map i64 := fun {zs vs'} h => by
  refine List.ext_getElem? fun i => ?_
  cases hv : vs'[i]? with
  | none =>
    rw [List.getElem?_eq_none_iff] at hv
    rw [List.getElem?_eq_none]
    rw [h.1]; exact hv
  | some v =>
    have hi : i < (zs.map i64).length := by rw [h.1]; exact (List.getElem?_eq_some_iff.1 hv).1
    have := h.2 i _ v (List.getElem?_eq_getElem hi) hv
    rw [List.getElem?_eq_getElem hi]
    rw [List.getElem_map] at this ⊢
    cases this; rfl
theorem VL.ofInts {ρ : Map} (zs : List Int) : VL ρ (zs.map i64) (zs.map i64) := ⟨rfl, fun i v v' h1 h2 => by
  rw [h1] at h2
  simp only [Option.some.injEq] at h2
  subst h2
  rw [List.getElem?_map, Option.map_eq_some_iff] at h1
  obtain ⟨z, _, rfl⟩ := h1
  exact .int _ _⟩

/-- slices.Sort at numbers. -/
theorem Sim.sortInts {P : Program} {G : Nat} {f : FuncId} (enter : ∀ (args : Array Value) (w : World), (callFunc f args).run P w = .ok (.enter f args) w)
    (hc : ∀ (blk off cap : Nat) (zs : List Int) (w : World), Go.Sort.Holds (Value.int .i64) w blk off zs.toArray → blk < w.heap.size → zs.length < 4611686018427387904 →
      Calls P f #[.slice (some ⟨blk, off, none⟩) zs.length cap] w fun e w' => e = .returned (.tuple #[]) ∧ ∃ n os, w' = grow (putRow (Value.int .i64) (Sort.ahead w n) blk off (zs.mergeSort fun x y => decide (x ≤ y)).toArray) os) : Sim P G f sortL := by
  refine ⟨enter, fun args n h v n' h' e ρ w args' r wl => ?_⟩
  unfold sortL at e
  split at e
  · rename_i x
    unfold sortM at e
    split at e
    · rename_i b o len cap
      split at e
      · cases e
      · rename_i hn
        replace e := bnd_some e
        obtain ⟨vs, n1, h1, e1, e⟩ := e
        obtain ⟨rfl, rfl, hk, L, hL, vs', hvl, hcell⟩ := r.rdN e1
        try dsimp only at e
        split at e
        · rename_i zs hz
          have hvs := intsOf_some hz
          subst hvs
          have := VL.ints hvl
          subst this
          replace e := bnd_some e
          obtain ⟨u, n2, h2, e2, e⟩ := e
          obtain ⟨rfl, B, hb, hm, hle, _, _⟩ := wrN_some e2
          simp only [ret, Option.some.injEq, Prod.mk.injEq] at e
          obtain ⟨rfl, rfl, rfl⟩ := e
          -- the argument in the world
          obtain ⟨hl, hw⟩ := wl
          match args', hl with
          | [x'], _ =>
            have hx := (hw 0 _ _ rfl rfl).strict rfl
            rw [List.length_map] at hk
            cases hx with
            | slice _ _ _ _ a' cap' L' hL' hs =>
              rw [hL] at hL'
              simp only [Option.some.injEq] at hL'
              subst hL'
              have hcap : cap' ≠ 0 := by have := hs.le; omega
              rw [hs.at_ hcap]
              have hcell' : ∀ j (hj : j < zs.length), w.cell? ⟨L.blk, L.off + o + j, none⟩ = some (i64 zs[j]) := fun j hj => hcell j _ (by rw [List.getElem?_eq_getElem (by simpa using hj), List.getElem_map])
              have hH : Go.Sort.Holds (Value.int .i64) w L.blk (L.off + o) zs.toArray := fun j hj => by
                have hj' : j < zs.length := by simpa using hj
                refine ⟨?_, r.unfrozen hb hm hL _⟩
                rw [hcell' j hj']
                simp [hj']
              have hblk : L.blk < w.heap.size := World.block_lt_of_cell? _ _ (hcell' 0 (by omega))
              subst hk
              refine (hc L.blk (L.off + o) cap' zs w hH hblk (by omega)).mono ?_
              rintro e w' ⟨rfl, q, os, rfl⟩
              rw [Lib.sorted_world (Value.int .i64) w L.blk (L.off + o) q zs.toArray (zs.mergeSort fun x y => decide (x ≤ y)) os hH (by simp), sortI_merge]
              have rq : R G ρ _ (w.drewN q) := r.heapMore fun k hk => rfl
              obtain ⟨_, L2, hL2, r2, x2, _, _, _⟩ := rq.wrN e2 (VL.ofInts _)
              rw [hL] at hL2
              simp only [Option.some.injEq] at hL2
              subst hL2
              refine ⟨_, ρ, rfl, .inl (.inl rfl), r2.heapMore fun k hk => grow_at _ _ _ hk, ?_⟩
              exact ((Ext.heapMore (w := w) (w' := w.drewN q) (Nat.le_refl _) (fun _ _ => rfl) rfl rfl rfl).trans x2).trans (Ext.heapMore (grow_size _ _) (fun k hk => grow_at _ _ _ hk) rfl rfl rfl)
        · cases e
    · cases e
  · cases e

end Go.Fw
