/-
  The framework by which the law is proved: TzMk, TzMkK.
-/
import Derived.Test.YtmdifacbhodikaaGreatDoorProg
import Derived.Test.YtmdifacbhodikaaGreatDoorFwk4
import Derived.Test.YtmdifacbhodikaaGreatDoorFwk2
import Derived.KernelRfl
set_option linter.all false
section
set_option linter.unusedVariables false
set_option maxRecDepth 20000
namespace Go.Fk
open Go Go.Fw Go.Proofs

def TryzG' : Nat := 2
def mkRest : AC := .seq (.reg 25 [5, 12, 13, 120]) (.seq (.drw 26 [0, 1, 2, 3, 4, 5, 6, 7, 8, 9, 10] [5, 12, 120]) (.drw 27 [0, 1, 2, 3, 4, 5, 6, 7, 8, 9, 10, 11, 12, 13, 14, 15, 16, 17, 18, 19, 20] [5, 120]))
noncomputable def mkE (S C : List Value → M Value) : Fw.Env := fun g => if g = 91 then some S else if g = 93 then some C else none
noncomputable def mkWalk (S C : List Value → M Value) (F : Nat) : Walk where
  P := Tryz.prog
  G := TryzG'
  E := mkE S C
  N := Tryz.f45.ntmps
  ops1 := opsOf Tryz.f45 23
  ops2 := opsOf Tryz.f45 24
  rest := mkRest
  opsR := opsOf Tryz.f45
  sp := noSp
  F := F
  B := 4
  B1 := 5
  r1 := 23
  r2 := 24
  ti := 120
  tn := 121
  tok := 122
  te := 123
  ts := [5, 120]
  clean := fun q _ g => deadR [q] g
def f92 : Value := .func (.func 92) #[] #[]

theorem mk_body_eq (S C : List Value → M Value) (F : Nat) (k v x it : Value) : (mkWalk S C F).bodyK k v [x, it] = mkT S C f92 k v x it := by kernel_rfl

def rangeT (x : Value) (Γ : List (Nat × Value)) : M (List (Nat × Value)) :=
  bnd (opNil x) fun a => bnd (opFieldAddr 3 a) fun b => bnd (opLoad b) fun c => bnd (opNil c) fun d => bnd (opFieldAddr 0 d) fun e => bnd (opLoad e) fun f => bnd (opRange f) fun g =>
    ret ((120, g) :: (119, f) :: (118, e) :: (117, d) :: (116, c) :: (115, b) :: (114, a) :: (113, x) :: Γ)
def noE : Fw.Env := fun _ => none
theorem mk_range_eq (Γ : List (Nat × Value)) : runK Tryz.prog TryzG' noE Tryz.f45.ntmps (opsOf Tryz.f45 22) (List.range (opsOf Tryz.f45 22).size) Γ (fun Γ' => ret Γ') = rangeT (Fw.look Γ 5) Γ := by kernel_rfl

theorem mk_OK {S C : List Value → M Value} {F : Nat} (hE : EnvOK Tryz.prog TryzG' (mkE S C)) (hm : Tryz.prog.follows .mixedOrders = true) : (mkWalk S C F).OK where
  hE := hE
  hm := hm
  hs := noSpM
  ha := by kernel_rfl
  hw := fun n n1 h => deadR_weak _ _
  o0 := ⟨((opsOf Tryz.f45 23)[0]?).getD default, by kernel_rfl, by kernel_rfl, by kernel_rfl, by kernel_rfl⟩
  o1 := ⟨((opsOf Tryz.f45 23)[1]?).getD default, by kernel_rfl, by kernel_rfl, by kernel_rfl, by kernel_rfl⟩
  sz1 := by kernel_rfl
  o2 := ⟨((opsOf Tryz.f45 24)[0]?).getD default, by kernel_rfl, by kernel_rfl, by kernel_rfl, by kernel_rfl⟩
  ntn := Nat.le_of_ble_eq_true (by kernel_rfl)
  ntok := Nat.le_of_ble_eq_true (by kernel_rfl)
  nte := Nat.le_of_ble_eq_true (by kernel_rfl)
  d1 := by show (121 : Nat) ≠ 122; omega
  d2 := by show (120 : Nat) ≠ 121; omega
  d3 := by show (120 : Nat) ≠ 122; omega
  m1 := by show (121 : Nat) ∉ [5, 120]; simp
  m2 := by show (122 : Nat) ∉ [5, 120]; simp


theorem Rounds.mono {good good' : List Value → Prop} (hg : ∀ s, good s → good' s) {body : Value → Value → List Value → M Value} {clean : Nat → Nat → H → H} {i m sz cl : Nat} {bs : List Nat} {π seen : List Nat} {s s' : List Value} {n n' : Nat} {h h' : H}
    (r : Rounds good body clean i m sz cl bs π seen s n h s' n' h') : Rounds good' body clean i m sz cl bs π seen s n h s' n' h' := by
  induction r with
  | nil => exact .nil
  | cons a b c d e f g _ ih => exact .cons a b c d e f (hg _ g) ih

theorem mk_body {S C : List Value → M Value} {F : Nat} (x it k v : Value) (q : Nat) (g : H) (r : Value × Nat × H) (e : mkT S C f92 k v x it q g = some r) : (mkWalk S C F).body k v [x, it] q g = some r := by
  exact Walk.bodyK_body _ ((congrArg (fun m : M Value => m.run q g) (mk_body_eq S C F k v x it)).trans e)

/-- The piece: the region that begins the walk, and the walk. -/
noncomputable def mkSp (S C : List Value → M Value) (F : Nat) (k : List (Nat × V) → (List (Nat × V) → St) → St) : Sp where
  code := fun _ => .seq (.region 22 (opsOf Tryz.f45 22) false) (mkWalk S C F).code
  m := fun _ Γ => bnd (mkM S C f92 (Fw.look Γ 5)) fun _ => ret [(5, Fw.look Γ 5)]
  k := fun _ => k
  ex := fun _ => .normal

theorem mk_maps {G : Nat} {ρ : Map} {h : H} {w : World} (r : Fw.R G ρ h w) (m sz cl : Nat) (E : List (Value × Value × Nat)) (hm : h.get m = some (mapB sz cl E)) : (∀ p, p ∈ E → ikey sz p.1 = true) ∧ E.Pairwise fun p q => p.1 ≠ q.1 := by
  obtain ⟨L, hL⟩ := r.loc hm
  rcases (r.maps m _ L hm (isMap_mapB _ _ _) hL).obj with ⟨n, E', es, clock, e1, e2, e3, e4, e5, e6⟩ | ⟨_, _, _, _, _, e1, _⟩ | ⟨e1, _⟩
  · have h1 : sz = n ∧ E = E' := by
      unfold mapB at e1
      simp only [Blk.mk.injEq, List.cons.injEq, Value.int.injEq, true_and, and_true] at e1
      exact ⟨by omega, flatE_inj e1.2.2⟩
    obtain ⟨rfl, rfl⟩ := h1
    exact ⟨e4, e5⟩
  · unfold mapB iterB at e1; simp at e1
  · unfold mapB iterNB at e1; simp at e1

theorem mkSp_M {mS mC : List Value → M Value} {F : Nat} {k : List (Nat × V) → (List (Nat × V) → St) → St} (hm : Tryz.prog.follows .mixedOrders = true) (hS : Sim Tryz.prog TryzG' 91 mS) (hC : Sim Tryz.prog TryzG' 93 mC) :
    SpM Tryz.prog TryzG' Tryz.f45.ntmps (mkSp (gcM TryzG' mS) (gcM TryzG' mC) F k) := by
  intro i c Q Γ K hP hG hN hK
  have hE : EnvOK Tryz.prog TryzG' (mkE (gcM TryzG' mS) (gcM TryzG' mC)) := by
    intro f m hf
    unfold mkE at hf
    split at hf
    · rename_i e; subst e; cases hf; exact gc_sim hS
    · split at hf
      · rename_i e; subst e; cases hf; exact gc_sim hC
      · cases hf
  have hE0 : EnvOK Tryz.prog TryzG' noE := fun f m hf => by cases hf
  have hx := mk_OK (F := F) hE hm
  obtain ⟨cP, cG, cE, cN, cρ, ch, cw, cz⟩ := c
  dsimp only at hP hG hN
  subst hP hG hN
  intro n h ρ w a e r x l d
  replace e : bnd (bnd (mkM (gcM TryzG' mS) (gcM TryzG' mC) f92 (Fw.look Γ 5)) fun _ => ret [(5, Fw.look Γ 5)]) K n h = some cz := e
  rw [bnd_assoc] at e
  obtain ⟨u, n1, h1, e1, e2⟩ := bnd_some e
  replace e2 : K [(5, Fw.look Γ 5)] n1 h1 = some cz := e2
  obtain ⟨mb, gb, m, cl, L, tot, gr, gk, hxe, X, hcl, hall⟩ := mk_all e1 fun m sz cl E hm => mk_maps r m sz cl E hm
  obtain ⟨mcs, mk, hmx, hmk, h3⟩ := X.hx
  have hgk : gk ≠ .dead := by rcases X.gk with q | q <;> rw [q] <;> simp
  -- the region ahead of the walk
  have hrun : runK Tryz.prog TryzG' noE Tryz.f45.ntmps (opsOf Tryz.f45 22) (List.range (opsOf Tryz.f45 22).size) Γ (fun Γ' => ret Γ') n h =
      some ((120, pn n 0) :: (119, .map (some m)) :: (118, pn gb 0) :: (117, pn gb 0) :: (116, pn gb 0) :: (115, pn mb 3) :: (114, pn mb 0) :: (113, pn mb 0) :: Γ, n + 1, h.set n (iterB m cl cl [])) := by
    rw [mk_range_eq, hxe]
    unfold rangeT
    rw [q_nil, q_fa, q_ld hmx hmk h3, q_nil, q_fa, q_ld X.hg hgk (v := .map (some m)) rfl]
    have hr : ∀ K : Value → M (List (Nat × Value)), bnd (opRange (.map (some m))) K n h = K (pn n 0) (n + 1) (h.set n (iterB m cl cl [])) := fun K => by
      show bnd (bnd (mpGet m) _) K n h = _
      rw [bnd_assoc, bnd_of (mpGet_of (cs := .int .u64 (Int.ofNat 5) :: .int .u64 (Int.ofNat cl) :: flatE (entS L [])) X.hm)]
      dsimp only
      rw [bnd_assoc, bnd_of (new_of (X.fresh n (Nat.le_refl _) (by omega)) rfl)]
      rfl
    rw [hr]
    rfl
  obtain ⟨Γ', n', h', hl, hz⟩ := runK_runL _ _ _ _ hrun
  obtain ⟨rfl, rfl, rfl⟩ := ret_some hz
  have hnm : n ≠ m := fun q => by have := X.fresh n (Nat.le_refl _) (by omega); rw [q, X.hm] at this; cases this
  have hi : (h.set n (iterB m cl cl [])).get n = some (iterB m cl cl []) := H.get_set_same _ _ _
  have hm' : (h.set n (iterB m cl cl [])).get m = some (mapB 5 cl (entS L [])) := by rw [H.get_set_ne _ _ (Ne.symm hnm)]; exact X.hm
  refine wp_seq (wp_region (runL_wpOps hE0 _ ρ h w Γ _ a n _ _ r l hl fun a' ρ' w' l' d' r' x' => ?_))
  show (mkWalk (gcM TryzG' mS) (gcM TryzG' mC) F).code.wp Tryz.prog Q a' w'
  obtain ⟨Li, hLi⟩ := r'.loc hi
  have hoff := r'.iterOff hi (isMap_iterB _ _ _ _) (fun sz c E q => by unfold iterB mapB at q; simp at q) hLi
  refine walk_ok hx (c := ⟨Tryz.prog, TryzG', cE, Tryz.f45.ntmps, cρ, ch, cw, cz⟩) rfl rfl rfl hoff X.borns (fun t ht => ?_) (fun s q g => s = [pn mb 0, pn n 0] ∧ q = n1 ∧ g.set n dead = h1 ∧ (g.get n).isSome = true) ?_
    (s := [pn mb 0, pn n 0]) (n := n + 1) hi hm' (borns_entS L []) hLi rfl (fun t ht => .inr ht) (fun t ht => ⟨ht, by simp⟩) X.borns ?_ r' (x.trans x') ?_ (d'.trans d)
  · obtain ⟨e, he, rfl⟩ := List.mem_map.1 ht
    exact hcl e he
  · rintro s q g ρ2 w2 a2 ⟨rfl, rfl, rfl, hs⟩ r2 x2 l2 d2
    have hW : Weak g (g.set n dead) := fun y => by
      rw [H.get_set]
      split
      · rename_i hy; subst hy; exact .inr ⟨hs, rfl⟩
      · exact .inl rfl
    refine hK _ _ _ _ _ _ e2 (r2.weak hW) (x2.trans (Ext.weak hW)) ?_ d2
    rw [hxe]
    exact l2.some [5]
  · intro π hπ
    obtain ⟨s', n'', h'', h1', h2', h3', h4', h5'⟩ := hall (fun k v q g r e => mk_body _ _ k v q g r e) π hπ
    exact ⟨s', n'', h'', Rounds.mono (fun s hs => by rw [hs]; rfl) h1', h2', h3', h4', h5'⟩
  · have := l'.some [5, 120]
    have e5 : Fw.look ((120, pn n 0) :: (119, .map (some m)) :: (118, pn gb 0) :: (117, pn gb 0) :: (116, pn gb 0) :: (115, pn mb 3) :: (114, pn mb 0) :: (113, pn mb 0) :: Γ) 5 = pn mb 0 := hxe
    simp only [List.map_cons, List.map_nil, e5] at this
    exact this

end Go.Fk
end
section
set_option linter.unusedVariables false
namespace Go.Fk
open Go Go.Fw Go.Proofs

theorem mkSp_K {mS mC : List Value → M Value} {F i : Nat} {fs fc : KF} {kk : List (Nat × V) → (List (Nat × V) → St) → St} (hS : CRef fs mS) (hC : CRef fc mC) {Γ : List (Nat × V)} {Γ' : List (Nat × Value)} {K : List (Nat × V) → St} {K' : List (Nat × Value) → M Value} (h : GR Γ Γ')
    (hK : ∀ Γ1 Γ1', GR Γ1 Γ1' → Ref (K Γ1) (K' Γ1')) : Ref (kMkLoop (fun l K => kGc fs l [.f 92 .nil] K) (fun l K => kGc fc l [] K) F (lookK Γ 5) (K [(5, lookK Γ 5)])) (bnd ((mkSp (gcM TryzG' mS) (gcM TryzG' mC) F kk).m i Γ') K') := by
  have hm := kMkLoop_ref (F := F) (S := gcM TryzG' mS) (C := gcM TryzG' mC) (z := f92) (srt := fun l K => kGc fs l [.f 92 .nil] K) (cmp := fun l K => kGc fc l [] K)
    (fun v w K K' hv hK => kGc_ref hS hv (rest := [.f 92 .nil]) (ws := [f92]) (.cons (.of (.f 92 .nil)) .nil) rfl hK)
    (fun v w K K' hv hK => kGc_ref hC hv (rest := []) (ws := []) .nil rfl hK)
    (h 5) (hK [(5, lookK Γ 5)] [(5, Fw.look Γ' 5)] ((GR.nil []).cons 5 (h 5)))
  show Ref _ (bnd (bnd (mkM (gcM TryzG' mS) (gcM TryzG' mC) f92 (Fw.look Γ' 5)) fun _ => ret [(5, Fw.look Γ' 5)]) K')
  rw [bnd_assoc]
  exact hm
def tabNs : List Nat := [0, 1, 56, 2, 57, 49, 28, 3, 61, 58, 42, 50, 38, 29, 17, 4, 62, 47, 59, 36, 45, 43, 51, 22, 53, 39, 33, 30, 24, 18, 12, 5, 63, 55, 48, 27, 60, 41, 37, 16, 46, 35, 44, 21, 52, 32, 23, 11, 54, 26, 40, 15, 34, 20, 31, 10, 25, 14, 19, 9, 13, 8, 7, 6]
end Go.Fk
end
