/-
  The framework by which the law is proved: TzMk, TzCo, TzMkK, TzCoW, TzTn, TzTnP, TzTnK.
-/
import Derived.Test.YtmdifacbhodikaaGreatDoorProg
import Derived.Test.YtmdifacbhodikaaGreatDoorWwk4
import Derived.Test.YtmdifacbhodikaaGreatDoorWwk2
import Derived.KernelRfl
set_option linter.all false
section
set_option linter.unusedVariables false
set_option maxRecDepth 20000
namespace Go.Fk
open Go Go.Fw Go.Proofs

def TryzG' : Nat := 2
def mkRest : AC := .seq (.reg 25 [5, 12, 13, 120]) (.seq (.drw 26 [0, 1, 2, 3, 4, 5, 6, 7, 8, 9, 10] [5, 12, 120]) (.drw 27 [0, 1, 2, 3, 4, 5, 6, 7, 8, 9, 10, 11, 12, 13, 14, 15, 16, 17, 18, 19, 20] [5, 120]))
noncomputable def mkE (S C : List Value → M Value) : Fw.Env := fun g => if g = 91 then some S else if g = 93 then some C else none
noncomputable def mkWalk (S C : List Value → M Value) (F : Nat) : Walk where
  P := Tryz.prog
  G := TryzG'
  E := mkE S C
  N := Tryz.f45.ntmps
  ops1 := opsOf Tryz.f45 23
  ops2 := opsOf Tryz.f45 24
  rest := mkRest
  opsR := opsOf Tryz.f45
  sp := noSp
  F := F
  B := 4
  B1 := 5
  r1 := 23
  r2 := 24
  ti := 120
  tn := 121
  tok := 122
  te := 123
  ts := [5, 120]
  clean := fun q _ g => deadR [q] g
def f92 : Value := .func (.func 92) #[] #[]

theorem mk_body_eq (S C : List Value → M Value) (F : Nat) (k v x it : Value) : (mkWalk S C F).bodyK k v [x, it] = mkT S C f92 k v x it := by kernel_rfl

def rangeT (x : Value) (Γ : List (Nat × Value)) : M (List (Nat × Value)) :=
  bnd (opNil x) fun a => bnd (opFieldAddr 3 a) fun b => bnd (opLoad b) fun c => bnd (opNil c) fun d => bnd (opFieldAddr 0 d) fun e => bnd (opLoad e) fun f => bnd (opRange f) fun g =>
    ret ((120, g) :: (119, f) :: (118, e) :: (117, d) :: (116, c) :: (115, b) :: (114, a) :: (113, x) :: Γ)
def noE : Fw.Env := fun _ => none
theorem mk_range_eq (Γ : List (Nat × Value)) : runK Tryz.prog TryzG' noE Tryz.f45.ntmps (opsOf Tryz.f45 22) (List.range (opsOf Tryz.f45 22).size) Γ (fun Γ' => ret Γ') = rangeT (Fw.look Γ 5) Γ := by kernel_rfl

theorem mk_OK {S C : List Value → M Value} {F : Nat} (hE : EnvOK Tryz.prog TryzG' (mkE S C)) (hm : Tryz.prog.follows .mixedOrders = true) : (mkWalk S C F).OK where
  hE := hE
  hm := hm
  hs := noSpM
  ha := by kernel_rfl
  hw := fun n n1 h => deadR_weak _ _
  o0 := ⟨((opsOf Tryz.f45 23)[0]?).getD default, by kernel_rfl, by kernel_rfl, by kernel_rfl, by kernel_rfl⟩
  o1 := ⟨((opsOf Tryz.f45 23)[1]?).getD default, by kernel_rfl, by kernel_rfl, by kernel_rfl, by kernel_rfl⟩
  sz1 := by kernel_rfl
  o2 := ⟨((opsOf Tryz.f45 24)[0]?).getD default, by kernel_rfl, by kernel_rfl, by kernel_rfl, by kernel_rfl⟩
  ntn := Nat.le_of_ble_eq_true (by kernel_rfl)
  ntok := Nat.le_of_ble_eq_true (by kernel_rfl)
  nte := Nat.le_of_ble_eq_true (by kernel_rfl)
  d1 := by show (121 : Nat) ≠ 122; omega
  d2 := by show (120 : Nat) ≠ 121; omega
  d3 := by show (120 : Nat) ≠ 122; omega
  m1 := by show (121 : Nat) ∉ [5, 120]; simp
  m2 := by show (122 : Nat) ∉ [5, 120]; simp


theorem Rounds.mono {good good' : List Value → Prop} (hg : ∀ s, good s → good' s) {body : Value → Value → List Value → M Value} {clean : Nat → Nat → H → H} {i m sz cl : Nat} {bs : List Nat} {π seen : List Nat} {s s' : List Value} {n n' : Nat} {h h' : H}
    (r : Rounds good body clean i m sz cl bs π seen s n h s' n' h') : Rounds good' body clean i m sz cl bs π seen s n h s' n' h' := by
  induction r with
  | nil => exact .nil
  | cons a b c d e f g _ ih => exact .cons a b c d e f (hg _ g) ih

theorem mk_body {S C : List Value → M Value} {F : Nat} (x it k v : Value) (q : Nat) (g : H) (r : Value × Nat × H) (e : mkT S C f92 k v x it q g = some r) : (mkWalk S C F).body k v [x, it] q g = some r := by
  exact Walk.bodyK_body _ ((congrArg (fun m : M Value => m.run q g) (mk_body_eq S C F k v x it)).trans e)

/-- The piece: the region that begins the walk, and the walk. -/
noncomputable def mkSp (S C : List Value → M Value) (F : Nat) (k : List (Nat × V) → (List (Nat × V) → St) → St) : Sp where
  code := fun _ => .seq (.region 22 (opsOf Tryz.f45 22) false) (mkWalk S C F).code
  m := fun _ Γ => bnd (mkM S C f92 (Fw.look Γ 5)) fun _ => ret [(5, Fw.look Γ 5)]
  k := fun _ => k
  ex := fun _ => .normal

theorem mk_maps {G : Nat} {ρ : Map} {h : H} {w : World} (r : Fw.R G ρ h w) (m sz cl : Nat) (E : List (Value × Value × Nat)) (hm : h.get m = some (mapB sz cl E)) : (∀ p, p ∈ E → ikey sz p.1 = true) ∧ E.Pairwise fun p q => p.1 ≠ q.1 := by
  obtain ⟨L, hL⟩ := r.loc hm
  rcases (r.maps m _ L hm (isMap_mapB _ _ _) hL).obj with ⟨n, E', es, clock, e1, e2, e3, e4, e5, e6⟩ | ⟨_, _, _, _, _, e1, _⟩ | ⟨e1, _⟩ | ⟨_, _, _, _, _, e1, _⟩
  · have h1 : sz = n ∧ E = E' := by
      unfold mapB at e1
      simp only [Blk.mk.injEq, List.cons.injEq, Value.int.injEq, true_and, and_true] at e1
      exact ⟨by omega, flatE_inj e1.2.2⟩
    obtain ⟨rfl, rfl⟩ := h1
    exact ⟨e4, e5⟩
  · unfold mapB iterB at e1; simp at e1
  · unfold mapB iterNB at e1; simp at e1
  · unfold mapB lookB at e1; simp at e1

theorem mkSp_M {mS mC : List Value → M Value} {F : Nat} {k : List (Nat × V) → (List (Nat × V) → St) → St} (hm : Tryz.prog.follows .mixedOrders = true) (hS : Sim Tryz.prog TryzG' 91 mS) (hC : Sim Tryz.prog TryzG' 93 mC) :
    SpM Tryz.prog TryzG' Tryz.f45.ntmps (mkSp (gcM TryzG' mS) (gcM TryzG' mC) F k) := by
  intro i c Q Γ K hP hG hN hK
  have hE : EnvOK Tryz.prog TryzG' (mkE (gcM TryzG' mS) (gcM TryzG' mC)) := by
    intro f m hf
    unfold mkE at hf
    split at hf
    · rename_i e; subst e; cases hf; exact gc_sim hS
    · split at hf
      · rename_i e; subst e; cases hf; exact gc_sim hC
      · cases hf
  have hE0 : EnvOK Tryz.prog TryzG' noE := fun f m hf => by cases hf
  have hx := mk_OK (F := F) hE hm
  obtain ⟨cP, cG, cE, cN, cρ, ch, cw, cz⟩ := c
  dsimp only at hP hG hN
  subst hP hG hN
  intro n h ρ w a e r x l d
  replace e : bnd (bnd (mkM (gcM TryzG' mS) (gcM TryzG' mC) f92 (Fw.look Γ 5)) fun _ => ret [(5, Fw.look Γ 5)]) K n h = some cz := e
  rw [bnd_assoc] at e
  obtain ⟨u, n1, h1, e1, e2⟩ := bnd_some e
  replace e2 : K [(5, Fw.look Γ 5)] n1 h1 = some cz := e2
  obtain ⟨mb, gb, m, cl, L, tot, gr, gk, hxe, X, hcl, hall⟩ := mk_all e1 fun m sz cl E hm => mk_maps r m sz cl E hm
  obtain ⟨mcs, mk, hmx, hmk, h3⟩ := X.hx
  have hgk : gk ≠ .dead := by rcases X.gk with q | q <;> rw [q] <;> simp
  -- the region ahead of the walk
  have hrun : runK Tryz.prog TryzG' noE Tryz.f45.ntmps (opsOf Tryz.f45 22) (List.range (opsOf Tryz.f45 22).size) Γ (fun Γ' => ret Γ') n h =
      some ((120, pn n 0) :: (119, .map (some m)) :: (118, pn gb 0) :: (117, pn gb 0) :: (116, pn gb 0) :: (115, pn mb 3) :: (114, pn mb 0) :: (113, pn mb 0) :: Γ, n + 1, h.set n (iterB m cl cl [])) := by
    rw [mk_range_eq, hxe]
    unfold rangeT
    rw [q_nil, q_fa, q_ld hmx hmk h3, q_nil, q_fa, q_ld X.hg hgk (v := .map (some m)) rfl]
    have hr : ∀ K : Value → M (List (Nat × Value)), bnd (opRange (.map (some m))) K n h = K (pn n 0) (n + 1) (h.set n (iterB m cl cl [])) := fun K => by
      show bnd (bnd (mpGet m) _) K n h = _
      rw [bnd_assoc, bnd_of (mpGet_of (cs := .int .u64 (Int.ofNat 5) :: .int .u64 (Int.ofNat cl) :: flatE (entS L [])) X.hm)]
      dsimp only
      rw [bnd_assoc, bnd_of (new_of (X.fresh n (Nat.le_refl _) (by omega)) rfl)]
      rfl
    rw [hr]
    rfl
  obtain ⟨Γ', n', h', hl, hz⟩ := runK_runL _ _ _ _ hrun
  obtain ⟨rfl, rfl, rfl⟩ := ret_some hz
  have hnm : n ≠ m := fun q => by have := X.fresh n (Nat.le_refl _) (by omega); rw [q, X.hm] at this; cases this
  have hi : (h.set n (iterB m cl cl [])).get n = some (iterB m cl cl []) := H.get_set_same _ _ _
  have hm' : (h.set n (iterB m cl cl [])).get m = some (mapB 5 cl (entS L [])) := by rw [H.get_set_ne _ _ (Ne.symm hnm)]; exact X.hm
  refine wp_seq (wp_region (runL_wpOps hE0 _ ρ h w Γ _ a n _ _ r l hl fun a' ρ' w' l' d' r' x' => ?_))
  show (mkWalk (gcM TryzG' mS) (gcM TryzG' mC) F).code.wp Tryz.prog Q a' w'
  obtain ⟨Li, hLi⟩ := r'.loc hi
  have hoff := r'.iterOff hi (isMap_iterB _ _ _ _) (fun sz c E q => by unfold iterB mapB at q; simp at q) (fun sz E q => by unfold iterB lookB at q; simp at q) hLi
  refine walk_ok hx (c := ⟨Tryz.prog, TryzG', cE, Tryz.f45.ntmps, cρ, ch, cw, cz⟩) rfl rfl rfl hoff X.borns (fun t ht => ?_) (fun s q g => s = [pn mb 0, pn n 0] ∧ q = n1 ∧ g.set n dead = h1 ∧ (g.get n).isSome = true) ?_
    (s := [pn mb 0, pn n 0]) (n := n + 1) hi hm' (borns_entS L []) hLi rfl (fun t ht => .inr ht) (fun t ht => ⟨ht, by simp⟩) X.borns ?_ r' (x.trans x') ?_ (d'.trans d)
  · obtain ⟨e, he, rfl⟩ := List.mem_map.1 ht
    exact hcl e he
  · rintro s q g ρ2 w2 a2 ⟨rfl, rfl, rfl, hs⟩ r2 x2 l2 d2
    have hW : Weak g (g.set n dead) := fun y => by
      rw [H.get_set]
      split
      · rename_i hy; subst hy; exact .inr ⟨hs, rfl⟩
      · exact .inl rfl
    refine hK _ _ _ _ _ _ e2 (r2.weak hW) (x2.trans (Ext.weak hW)) ?_ d2
    rw [hxe]
    exact l2.some [5]
  · intro π hπ
    obtain ⟨s', n'', h'', h1', h2', h3', h4', h5'⟩ := hall (fun k v q g r e => mk_body _ _ k v q g r e) π hπ
    exact ⟨s', n'', h'', Rounds.mono (fun s hs => by rw [hs]; rfl) h1', h2', h3', h4', h5'⟩
  · have := l'.some [5, 120]
    have e5 : Fw.look ((120, pn n 0) :: (119, .map (some m)) :: (118, pn gb 0) :: (117, pn gb 0) :: (116, pn gb 0) :: (115, pn mb 3) :: (114, pn mb 0) :: (113, pn mb 0) :: Γ) 5 = pn mb 0 := hxe
    simp only [List.map_cons, List.map_nil, e5] at this
    exact this

end Go.Fk
end
section
set_option linter.unusedVariables false
set_option maxRecDepth 20000
namespace Go.Fk
open Go Go.Fw Go.Proofs

theorem pure_nil {x v : Value} {n n' : Nat} {h h' : H} (e : opNil x n h = some (v, n', h')) : n' = n ∧ h' = h := by
  unfold opNil at e
  split at e <;> first | (obtain ⟨_, rfl, rfl⟩ := ret_some e; exact ⟨rfl, rfl⟩) | cases e
theorem pure_fa {f : Nat} {x v : Value} {n n' : Nat} {h h' : H} (e : opFieldAddr f x n h = some (v, n', h')) : n' = n ∧ h' = h := by
  unfold opFieldAddr at e
  split at e <;> first | (obtain ⟨_, rfl, rfl⟩ := ret_some e; exact ⟨rfl, rfl⟩) | cases e
theorem pure_ld {x v : Value} {n n' : Nat} {h h' : H} (e : opLoad x n h = some (v, n', h')) : n' = n ∧ h' = h := by
  unfold opLoad at e
  split at e
  · obtain ⟨rfl, rfl, _⟩ := rd_some e; exact ⟨rfl, rfl⟩
  · cases e
theorem pure_ia {s : Nat} {x i v : Value} {n n' : Nat} {h h' : H} (e : opIndexAddr s x i n h = some (v, n', h')) : n' = n ∧ h' = h := by
  unfold opIndexAddr at e
  repeat' (split at e)
  all_goals first | (obtain ⟨_, rfl, rfl⟩ := ret_some e; exact ⟨rfl, rfl⟩) | cases e

/-- What a walk that collects keys comes to; Γ: what is known where it begins. -/
theorem coll_walk {x : Walk} (hx : x.OK) {S : Value → M Value} {c : Ctx} (hP : c.P = x.P) (hG : c.G = x.G) (hN : c.N = x.N) {Q : Exit → Act → World → Prop}
    (hts : x.ts.length = 2) (hti : ∀ l it : Value, Fw.look (x.Γs [l, it]) x.ti = it) (hclean : ∀ q g h, x.clean q g h = deadR [q, q + 1] h) (hbody : ∀ k v l it n h r, colT k v l it n h = some r → x.body k v [l, it] n h = some r)
    {mv v : Value} {n n' : Nat} {h h' : H} (e : colM S mv n h = some (v, n', h')) (r0 : ∀ m sz cl E, h.get m = some (mapB sz cl E) → (∀ p, p ∈ E → ikey sz p.1 = true) ∧ E.Pairwise fun p q => p.1 ≠ q.1)
    (hend : ∀ l q g ρ w a, S l q g = some (v, n', h') → Fw.R c.G ρ g w → Ext c.ρ c.h c.w ρ g w → Live ρ c.N (x.Γs [l, pn n 0]) a → a.defers = [] → Q .normal a w) :
    ∃ m cl E, mv = .map (some m) ∧ h.get n = none ∧ h.get m = some (mapB 2 cl E) ∧
      ∀ ρ w a, Fw.R c.G ρ (h.set n (iterB m cl cl [])) w → Ext c.ρ c.h c.w ρ (h.set n (iterB m cl cl [])) w → Live ρ c.N (x.Γs [.slice none 0 0, pn n 0]) a → a.defers = [] → x.code.wp c.P Q a w := by
  obtain ⟨m, cl, E, hme, X, hcl, hall⟩ := col_all e r0
  have hnn : h.get n = none := X.fresh n (Nat.le_refl _) (by omega)
  have hnm : n ≠ m := fun q => by rw [q, X.hm] at hnn; cases hnn
  refine ⟨m, cl, E, hme, hnn, X.hm, fun ρ w a r ex lv hd => ?_⟩
  · have hi : (h.set n (iterB m cl cl [])).get n = some (iterB m cl cl []) := H.get_set_same _ _ _
    have hm' : (h.set n (iterB m cl cl [])).get m = some (mapB 2 cl E) := by rw [H.get_set_ne _ _ (Ne.symm hnm)]; exact X.hm
    obtain ⟨Li, hLi⟩ := r.loc hi
    have hoff := r.iterOff hi (isMap_iterB _ _ _ _) (fun sz c E q => by unfold iterB mapB at q; simp at q) (fun sz E q => by unfold iterB lookB at q; simp at q) hLi
    have I0 : CInv m cl n E h [] [colV (n + 1 - 1) [], pn n 0] (n + 1) (h.set n (iterB m cl cl [])) := by
      refine ⟨rfl, rfl, List.nodup_nil, (fun t ht => nomatch ht), hi, hm', fun q => absurd rfl q, fun x h1 h2 => by omega, fun x h1 h2 => ?_, (Gr.refl _).set _ _⟩
      rw [H.get_set_ne _ _ h1]
    have hgood : ∀ s : List Value, (∃ l, s = [l, pn n 0]) → Fw.look (x.Γs s) x.ti = pn n 0 := by
      rintro s ⟨l, rfl⟩
      exact hti _ _
    refine walk_ok hx hP hG hN hoff X.nd (fun t ht => ?_) (fun s q g => ∃ π, List.Perm π (borns E) ∧ CInv m cl n E h π s q g) ?_ (s := [colV (n + 1 - 1) [], pn n 0]) (n := n + 1) hi hm' rfl hLi (hti _ _) (fun t ht => .inr ht) (fun t ht => ⟨ht, by simp⟩) X.nd ?_ r ex lv hd
    · obtain ⟨p, hp, rfl⟩ := List.mem_map.1 ht
      exact hcl p hp
    · rintro s q g ρ w a ⟨π, hp, I⟩ r2 x2 l2 d2
      obtain ⟨k1, k2, k3⟩ := hall π s q g hp I
      subst k1
      have hW : Weak g (g.set n dead) := fun y => by
        rw [H.get_set]
        split
        · rename_i hy; subst hy; exact .inr ⟨k2, rfl⟩
        · exact .inl rfl
      exact hend _ _ _ _ _ _ k3 (r2.weak hW) (x2.trans (Ext.weak hW)) l2 d2
    · intro π hp
      obtain ⟨s', q', g', hr, hI⟩ := rounds_of_inv (good := fun s => Fw.look (x.Γs s) x.ti = .pointer (some ⟨n, 0, none⟩)) (body := x.body) (clean := x.clean) (i := n) (m := m) (sz := 2) (cl := cl) (bs := borns E) (CInv m cl n E h)
        (fun seen s q g t I ht hs => by
          obtain ⟨E1, E2, k, v, vs, n1, h1, g1, g2, g3, g4, g5, g6, ⟨l, g7⟩, g8⟩ := cInv_step X (body := x.body) (fun k v l n h r e => hbody k v l _ n h r e) seen s q g t I ht hs
          refine ⟨E1, E2, k, v, vs, n1, h1, g1, g2, g3, ?_, ?_, g6, hgood _ ⟨l, g7⟩, ?_⟩
          · rw [hclean]; exact g4
          · rw [hclean]; exact g5
          · rw [hclean]; exact g8) π [] _ _ _ I0 (hp.nodup_iff.2 X.nd) (fun t ht => ⟨hp.mem_iff.1 ht, by simp⟩)
      rw [List.nil_append] at hI
      exact ⟨s', q', g', hr, π, hp, hI⟩
end Go.Fk
end
section
set_option linter.unusedVariables false
namespace Go.Fk
open Go Go.Fw Go.Proofs

theorem mkSp_K {mS mC : List Value → M Value} {F i : Nat} {fs fc : KF} {kk : List (Nat × V) → (List (Nat × V) → St) → St} (hS : CRef fs mS) (hC : CRef fc mC) {Γ : List (Nat × V)} {Γ' : List (Nat × Value)} {K : List (Nat × V) → St} {K' : List (Nat × Value) → M Value} (h : GR Γ Γ')
    (hK : ∀ Γ1 Γ1', GR Γ1 Γ1' → Ref (K Γ1) (K' Γ1')) : Ref (kMkLoop (fun l K => kGc fs l [.f 92 .nil] K) (fun l K => kGc fc l [] K) F (lookK Γ 5) (K [(5, lookK Γ 5)])) (bnd ((mkSp (gcM TryzG' mS) (gcM TryzG' mC) F kk).m i Γ') K') := by
  have hm := kMkLoop_ref (F := F) (S := gcM TryzG' mS) (C := gcM TryzG' mC) (z := f92) (srt := fun l K => kGc fs l [.f 92 .nil] K) (cmp := fun l K => kGc fc l [] K)
    (fun v w K K' hv hK => kGc_ref hS hv (rest := [.f 92 .nil]) (ws := [f92]) (.cons (.of (.f 92 .nil)) .nil) rfl hK)
    (fun v w K K' hv hK => kGc_ref hC hv (rest := []) (ws := []) .nil rfl hK)
    (h 5) (hK [(5, lookK Γ 5)] [(5, Fw.look Γ' 5)] ((GR.nil []).cons 5 (h 5)))
  show Ref _ (bnd (bnd (mkM (gcM TryzG' mS) (gcM TryzG' mC) f92 (Fw.look Γ' 5)) fun _ => ret [(5, Fw.look Γ' 5)]) K')
  rw [bnd_assoc]
  exact hm
def tabNs : List Nat := [0, 1, 56, 2, 57, 49, 28, 3, 61, 58, 42, 50, 38, 29, 17, 4, 62, 47, 59, 36, 45, 43, 51, 22, 53, 39, 33, 30, 24, 18, 12, 5, 63, 55, 48, 27, 60, 41, 37, 16, 46, 35, 44, 21, 52, 32, 23, 11, 54, 26, 40, 15, 34, 20, 31, 10, 25, 14, 19, 9, 13, 8, 7, 6]
end Go.Fk
end
section
set_option linter.unusedVariables false
set_option maxRecDepth 20000
namespace Go.Fk
open Go Go.Fw Go.Proofs

def f99 : Value := .func (.func 99) #[] #[]
def coE (g : Nat) (S : List Value → M Value) : Fw.Env := fun f => if f = g then some S else none
theorem coE_OK {g : Nat} {m : List Value → M Value} (hS : Sim Tryz.prog TryzG' g m) : EnvOK Tryz.prog TryzG' (coE g (gcM TryzG' m)) := by
  intro f m' hf
  unfold coE at hf
  split at hf
  · rename_i e; subst e; cases hf; exact gc_sim hS
  · cases hf

/-! ## Writes -/

noncomputable def wrWalk (S : List Value → M Value) (F : Nat) : Walk where
  P := Tryz.prog
  G := TryzG'
  E := coE 141 S
  N := Tryz.f231.ntmps
  ops1 := opsOf Tryz.f231 3
  ops2 := opsOf Tryz.f231 4
  rest := .reg 5 [5, 14]
  opsR := opsOf Tryz.f231
  sp := noSp
  F := F
  B := 0
  B1 := 1
  r1 := 3
  r2 := 4
  ti := 14
  tn := 15
  tok := 16
  te := 17
  ts := [5, 14]
  clean := fun q _ g => deadR [q, q + 1] g
theorem wr_body_eq (S : List Value → M Value) (F : Nat) (k v l it : Value) : (wrWalk S F).bodyK k v [l, it] = colT k v l it := by kernel_rfl
theorem wr_range_eq (E : Fw.Env) (Γ : List (Nat × Value)) : runK Tryz.prog TryzG' E Tryz.f231.ntmps (opsOf Tryz.f231 2) (List.range (opsOf Tryz.f231 2).size) Γ (fun Γ' => ret Γ') =
    bnd (opNil (Fw.look Γ 0)) fun a => bnd (opFieldAddr 2 a) fun b => bnd (opLoad b) fun c => bnd (opIndexAddr 1 c (Fw.look Γ 1)) fun d => bnd (opLoad d) fun e => bnd (opRange e) fun r => ret ((14, r) :: (13, e) :: (12, d) :: (11, Fw.look Γ 1) :: (10, c) :: (9, b) :: (8, a) :: (7, Fw.look Γ 0) :: Γ) := by kernel_rfl
theorem wr_last_eq (S : List Value → M Value) (Γ : List (Nat × Value)) : runK Tryz.prog TryzG' (coE 141 S) Tryz.f231.ntmps (opsOf Tryz.f231 6) (List.range (opsOf Tryz.f231 6).size) Γ (fun Γ' => ret Γ') =
    bnd (S [Fw.look Γ 5]) fun v => ret ((4, v) :: (24, v) :: (23, Fw.look Γ 5) :: Γ) := by kernel_rfl
theorem wr_OK {S : List Value → M Value} {F : Nat} (hE : EnvOK Tryz.prog TryzG' (coE 141 S)) (hm : Tryz.prog.follows .mixedOrders = true) : (wrWalk S F).OK where
  hE := hE
  hm := hm
  hs := noSpM
  ha := by kernel_rfl
  hw := fun n n1 h => deadR_weak _ _
  o0 := ⟨((opsOf Tryz.f231 3)[0]?).getD default, by kernel_rfl, by kernel_rfl, by kernel_rfl, by kernel_rfl⟩
  o1 := ⟨((opsOf Tryz.f231 3)[1]?).getD default, by kernel_rfl, by kernel_rfl, by kernel_rfl, by kernel_rfl⟩
  sz1 := by kernel_rfl
  o2 := ⟨((opsOf Tryz.f231 4)[0]?).getD default, by kernel_rfl, by kernel_rfl, by kernel_rfl, by kernel_rfl⟩
  ntn := Nat.le_of_ble_eq_true (by kernel_rfl)
  ntok := Nat.le_of_ble_eq_true (by kernel_rfl)
  nte := Nat.le_of_ble_eq_true (by kernel_rfl)
  d1 := by show (15 : Nat) ≠ 16; omega
  d2 := by show (14 : Nat) ≠ 15; omega
  d3 := by show (14 : Nat) ≠ 16; omega
  m1 := by show (15 : Nat) ∉ [5, 14]; simp
  m2 := by show (16 : Nat) ∉ [5, 14]; simp

/-- A nil list stands where the walk begins. -/
def onNs (x : Value) (m : M (List (Nat × Value))) : M (List (Nat × Value)) :=
  match x with
  | .slice none 0 0 => m
  | _ => fail
noncomputable def wrM (S : Value → M Value) (Γ : List (Nat × Value)) : M (List (Nat × Value)) :=
  bnd (opNil (Fw.look Γ 0)) fun a => bnd (opFieldAddr 2 a) fun b => bnd (opLoad b) fun c => bnd (opIndexAddr 1 c (Fw.look Γ 1)) fun d => bnd (opLoad d) fun e => onNs (Fw.look Γ 5) (bnd (colM S e) fun v => ret [(4, v)])
noncomputable def wrSp (S : List Value → M Value) (F : Nat) (k : List (Nat × V) → (List (Nat × V) → St) → St) : Sp where
  code := fun _ => .seq (.seq (.region 2 (opsOf Tryz.f231 2) false) (wrWalk S F).code) (.seq (.region 6 (opsOf Tryz.f231 6) false) .ret)
  m := fun _ Γ => wrM (fun l => S [l]) Γ
  k := fun _ => k
  ex := fun _ => .ret

theorem range_run {e : Value} {m cl : Nat} {E : List (Value × Value × Nat)} {n : Nat} {h : H} (he : e = .map (some m)) (hn : h.get n = none) (hm : h.get m = some (mapB 2 cl E)) {α : Type} (K : Value → M α) : bnd (opRange e) K n h = K (pn n 0) (n + 1) (h.set n (iterB m cl cl [])) := by
  subst he
  show bnd (bnd (mpGet m) _) K n h = _
  rw [bnd_assoc, bnd_of (mpGet_of (cs := .int .u64 (Int.ofNat 2) :: .int .u64 (Int.ofNat cl) :: flatE E) hm)]
  dsimp only
  rw [bnd_assoc, bnd_of (new_of hn rfl)]
  rfl
theorem onNs_some {x : Value} {m : M (List (Nat × Value))} {K : List (Nat × Value) → M Value} {n : Nat} {h : H} {z : Value × Nat × H} (e : bnd (onNs x m) K n h = some z) : x = .slice none 0 0 ∧ bnd m K n h = some z := by
  unfold onNs at e
  split at e
  · exact ⟨rfl, e⟩
  · cases e

theorem wrSp_M {mS : List Value → M Value} {F : Nat} {k : List (Nat × V) → (List (Nat × V) → St) → St} (hm : Tryz.prog.follows .mixedOrders = true) (hS : Sim Tryz.prog TryzG' 141 mS) : SpM Tryz.prog TryzG' Tryz.f231.ntmps (wrSp (gcM TryzG' mS) F k) := by
  intro i c Q Γ K hP hG hN hK
  have hE := coE_OK hS
  have hx := wr_OK (F := F) hE hm
  obtain ⟨cP, cG, cE, cN, cρ, ch, cw, cz⟩ := c
  dsimp only at hP hG hN
  subst hP hG hN
  intro n h ρ w a e r x l d
  replace e : bnd (wrM (fun l => gcM TryzG' mS [l]) Γ) K n h = some cz := e
  unfold wrM at e
  rw [bnd_assoc] at e
  obtain ⟨v1, n1, h1, e1, f1⟩ := bnd_some e
  obtain ⟨rfl, rfl⟩ := pure_nil e1
  rw [bnd_assoc] at f1
  obtain ⟨v2, n2, h2, e2, f2⟩ := bnd_some f1
  obtain ⟨rfl, rfl⟩ := pure_fa e2
  rw [bnd_assoc] at f2
  obtain ⟨v3, n3, h3, e3, f3⟩ := bnd_some f2
  obtain ⟨rfl, rfl⟩ := pure_ld e3
  rw [bnd_assoc] at f3
  obtain ⟨v4, n4, h4, e4, f4⟩ := bnd_some f3
  obtain ⟨rfl, rfl⟩ := pure_ia e4
  rw [bnd_assoc] at f4
  obtain ⟨v5, n5, h5, e5, f5⟩ := bnd_some f4
  obtain ⟨rfl, rfl⟩ := pure_ld e5
  obtain ⟨hns, f9⟩ := onNs_some f5
  rw [bnd_assoc] at f9
  obtain ⟨v6, n6, h6, e6, e7⟩ := bnd_some f9
  replace e7 : K [(4, v6)] n6 h6 = some cz := e7
  obtain ⟨m, cl, E, hme, hnn, hmE, hwalk⟩ := coll_walk hx (c := ⟨Tryz.prog, TryzG', cE, Tryz.f231.ntmps, cρ, ch, cw, cz⟩) rfl rfl rfl (Q := Exit.then (fun a w => (Code.seq (.region 6 (opsOf Tryz.f231 6) false) .ret).wp Tryz.prog Q a w) Q) rfl (fun l it => rfl) (fun q g h => rfl)
    (fun k v l it n h r e => Walk.bodyK_body _ ((congrArg (fun m : M Value => m.run n h) (wr_body_eq (gcM TryzG' mS) F k v l it)).trans e)) e6 (fun m sz cl E hm => mk_maps r m sz cl E hm)
    (fun l' q g ρ2 w2 a2 eS r2 x2 l2 d2 => by
      show (Code.seq (.region 6 (opsOf Tryz.f231 6) false) .ret).wp Tryz.prog Q a2 w2
      have hrun : runK Tryz.prog TryzG' (coE 141 (gcM TryzG' mS)) Tryz.f231.ntmps (opsOf Tryz.f231 6) (List.range (opsOf Tryz.f231 6).size) ((wrWalk (gcM TryzG' mS) F).Γs [l', pn n5 0]) (fun Γ' => ret Γ') q g =
          some ((4, v6) :: (24, v6) :: (23, l') :: (wrWalk (gcM TryzG' mS) F).Γs [l', pn n5 0], n6, h6) := by
        rw [wr_last_eq]
        show bnd (gcM TryzG' mS [l']) _ q g = _
        rw [bnd_of eS]
        rfl
      obtain ⟨Γ', n', h', hl, hz⟩ := runK_runL _ _ _ _ hrun
      obtain ⟨rfl, rfl, rfl⟩ := ret_some hz
      refine wp_seq (wp_region (runL_wpOps hE _ ρ2 g w2 _ _ a2 q _ _ r2 l2 hl fun a' ρ' w' l' d' r' x' => ?_))
      exact wp_ret (hK _ _ _ _ _ _ e7 r' (x2.trans x') (l'.some [4]) (d'.trans d2)))
  -- the region ahead of the walk
  have hrun : runK Tryz.prog TryzG' noE Tryz.f231.ntmps (opsOf Tryz.f231 2) (List.range (opsOf Tryz.f231 2).size) Γ (fun Γ' => ret Γ') n5 h5 =
      some ((14, pn n5 0) :: (13, v5) :: (12, v4) :: (11, Fw.look Γ 1) :: (10, v3) :: (9, v2) :: (8, v1) :: (7, Fw.look Γ 0) :: Γ, n5 + 1, h5.set n5 (iterB m cl cl [])) := by
    rw [wr_range_eq, bnd_of e1, bnd_of e2, bnd_of e3, bnd_of e4, bnd_of e5, range_run hme hnn hmE]
    rfl
  obtain ⟨Γ', n', h', hl, hz⟩ := runK_runL _ _ _ _ hrun
  obtain ⟨rfl, rfl, rfl⟩ := ret_some hz
  refine wp_seq (wp_seq (wp_region (runL_wpOps (fun f m hf => by cases hf) _ ρ h5 w Γ _ a n5 _ _ r l hl fun a' ρ' w' l' d' r' x' => ?_)))
  refine hwalk ρ' w' a' r' (x.trans x') ?_ (d'.trans d)
  have := l'.some [5, 14]
  have h5l : Fw.look ((14, pn n5 0) :: (13, v5) :: (12, v4) :: (11, Fw.look Γ 1) :: (10, v3) :: (9, v2) :: (8, v1) :: (7, Fw.look Γ 0) :: Γ) 5 = .slice none 0 0 := hns
  simp only [List.map_cons, List.map_nil, h5l] at this
  exact this

noncomputable def onNsK (x : V) (k : St) : St := @V.rec (fun _ => St) bad bad (fun _ => bad) (fun _ => bad) (fun _ _ => bad) (fun _ => bad) (fun _ _ => bad) bad (fun _ _ _ _ => bad) k bad (fun _ _ _ _ => bad) (fun _ _ => bad) (fun _ _ => bad) (fun _ => bad) bad (fun _ _ _ => bad) bad (fun _ _ _ => bad) bad (fun _ => bad) x
theorem onNsK_ref {x : V} {w : Value} (hx : VRel x w) {k : St} {m : M (List (Nat × Value))} {K' : List (Nat × Value) → M Value} (hk : Ref k (bnd m K')) : Ref (onNsK x k) (bnd (onNs w m) K') := by
  cases x <;> try exact Ref.bad
  rw [hx.got (by simp)]
  exact hk
noncomputable def kWr (sK : V → (V → St) → St) (t n l : V) (K : V → St) : St := kNil t fun x => kFieldAddr 2 x fun x => kLoad x fun x => kIndexAddr 1 x n fun x => kLoad x fun m => onNsK l (kColl sK m K)

theorem gc_one {m : List Value → M Value} : OneB fun l => gcM TryzG' m [l] := by
  intro b len cap n n' h h' v e
  obtain ⟨h1, B, C, h2, _, _, h3, _, h4⟩ := gc_prop e
  exact ⟨h1, B, C, h2, h3, h4⟩
theorem wrSp_K {mS : List Value → M Value} {F i : Nat} {fs : KF} {kk : List (Nat × V) → (List (Nat × V) → St) → St} (hS : CRef fs mS) {Γ : List (Nat × V)} {Γ' : List (Nat × Value)} {K : List (Nat × V) → St} {K' : List (Nat × Value) → M Value} (h : GR Γ Γ')
    (hK : ∀ Γ1 Γ1', GR Γ1 Γ1' → Ref (K Γ1) (K' Γ1')) : Ref (kWr (fun l K => kGc fs l [] K) (lookK Γ 0) (lookK Γ 1) (lookK Γ 5) fun v => K [(4, v)]) (bnd ((wrSp (gcM TryzG' mS) F kk).m i Γ') K') := by
  show Ref _ (bnd (wrM (fun l => gcM TryzG' mS [l]) Γ') K')
  unfold wrM
  rw [bnd_assoc]
  refine kNil_ref (h 0) fun v1 w1 h1 => ?_
  rw [bnd_assoc]
  refine kFieldAddr_ref h1 fun v2 w2 h2 => ?_
  rw [bnd_assoc]
  refine kLoad_ref h2 fun v3 w3 h3 => ?_
  rw [bnd_assoc]
  refine kIndexAddr_ref h3 (h 1) fun v4 w4 h4 => ?_
  rw [bnd_assoc]
  refine kLoad_ref h4 fun v5 w5 h5 => onNsK_ref (h 5) ?_
  rw [bnd_assoc]
  exact kColl_ref (S := fun l => gcM TryzG' mS [l]) (fun v w K K' hv hK => kGc_ref hS hv (rest := []) (ws := []) .nil rfl hK) gc_one h5 fun v w hv => hK _ _ ((GR.nil []).cons 4 hv)

/-! ## Edges -/

noncomputable def edWalk (S : List Value → M Value) (F : Nat) : Walk where
  P := Tryz.prog
  G := TryzG'
  E := coE 98 S
  N := Tryz.f50.ntmps
  ops1 := opsOf Tryz.f50 5
  ops2 := opsOf Tryz.f50 6
  rest := .reg 7 [3, 11]
  opsR := opsOf Tryz.f50
  sp := noSp
  F := F
  B := 0
  B1 := 1
  r1 := 5
  r2 := 6
  ti := 11
  tn := 12
  tok := 13
  te := 14
  ts := [3, 11]
  clean := fun q _ g => deadR [q, q + 1] g
theorem ed_body_eq (S : List Value → M Value) (F : Nat) (k v l it : Value) : (edWalk S F).bodyK k v [l, it] = colT k v l it := by kernel_rfl
theorem ed_range_eq (E : Fw.Env) (Γ : List (Nat × Value)) : runK Tryz.prog TryzG' E Tryz.f50.ntmps (opsOf Tryz.f50 4) (List.range (opsOf Tryz.f50 4).size) Γ (fun Γ' => ret Γ') =
    bnd (opNil (Fw.look Γ 0)) fun a => bnd (opFieldAddr 8 a) fun b => bnd (opLoad b) fun c => bnd (opRange c) fun r => ret ((11, r) :: (10, c) :: (9, b) :: (8, a) :: (7, Fw.look Γ 0) :: Γ) := by kernel_rfl
theorem ed_last_eq (S : List Value → M Value) (Γ : List (Nat × Value)) : runK Tryz.prog TryzG' (coE 98 S) Tryz.f50.ntmps (opsOf Tryz.f50 8) (List.range (opsOf Tryz.f50 8).size) Γ (fun Γ' => ret Γ') =
    bnd (S [Fw.look Γ 3, f99]) fun v => ret ((21, v) :: (20, Fw.look Γ 3) :: Γ) := by kernel_rfl
theorem ed_end_eq (E : Fw.Env) (Γ : List (Nat × Value)) : runK Tryz.prog TryzG' E Tryz.f50.ntmps (opsOf Tryz.f50 9) (List.range (opsOf Tryz.f50 9).size) Γ (fun Γ' => ret Γ') =
    ret ((2, Fw.look Γ 3) :: (22, Fw.look Γ 3) :: Γ) := by kernel_rfl
theorem ed_OK {S : List Value → M Value} {F : Nat} (hE : EnvOK Tryz.prog TryzG' (coE 98 S)) (hm : Tryz.prog.follows .mixedOrders = true) : (edWalk S F).OK where
  hE := hE
  hm := hm
  hs := noSpM
  ha := by kernel_rfl
  hw := fun n n1 h => deadR_weak _ _
  o0 := ⟨((opsOf Tryz.f50 5)[0]?).getD default, by kernel_rfl, by kernel_rfl, by kernel_rfl, by kernel_rfl⟩
  o1 := ⟨((opsOf Tryz.f50 5)[1]?).getD default, by kernel_rfl, by kernel_rfl, by kernel_rfl, by kernel_rfl⟩
  sz1 := by kernel_rfl
  o2 := ⟨((opsOf Tryz.f50 6)[0]?).getD default, by kernel_rfl, by kernel_rfl, by kernel_rfl, by kernel_rfl⟩
  ntn := Nat.le_of_ble_eq_true (by kernel_rfl)
  ntok := Nat.le_of_ble_eq_true (by kernel_rfl)
  nte := Nat.le_of_ble_eq_true (by kernel_rfl)
  d1 := by show (12 : Nat) ≠ 13; omega
  d2 := by show (11 : Nat) ≠ 12; omega
  d3 := by show (11 : Nat) ≠ 13; omega
  m1 := by show (12 : Nat) ∉ [3, 11]; simp
  m2 := by show (13 : Nat) ∉ [3, 11]; simp

noncomputable def edM (S : Value → M Value) (Γ : List (Nat × Value)) : M (List (Nat × Value)) :=
  bnd (opNil (Fw.look Γ 0)) fun a => bnd (opFieldAddr 8 a) fun b => bnd (opLoad b) fun c => onNs (Fw.look Γ 3) (bnd (colM S c) fun v => ret [(2, v)])
noncomputable def edS (S : List Value → M Value) (l : Value) : M Value := bnd (S [l, f99]) fun _ => ret l
noncomputable def edSp (S : List Value → M Value) (F : Nat) (k : List (Nat × V) → (List (Nat × V) → St) → St) : Sp where
  code := fun _ => .seq (.seq (.region 4 (opsOf Tryz.f50 4) false) (edWalk S F).code) (.seq (.region 8 (opsOf Tryz.f50 8) false) (.seq (.region 9 (opsOf Tryz.f50 9) false) .ret))
  m := fun _ Γ => edM (edS S) Γ
  k := fun _ => k
  ex := fun _ => .ret

theorem edSp_M {mS : List Value → M Value} {F : Nat} {k : List (Nat × V) → (List (Nat × V) → St) → St} (hm : Tryz.prog.follows .mixedOrders = true) (hS : Sim Tryz.prog TryzG' 98 mS) : SpM Tryz.prog TryzG' Tryz.f50.ntmps (edSp (gcM TryzG' mS) F k) := by
  intro i c Q Γ K hP hG hN hK
  have hE := coE_OK hS
  have hx := ed_OK (F := F) hE hm
  obtain ⟨cP, cG, cE, cN, cρ, ch, cw, cz⟩ := c
  dsimp only at hP hG hN
  subst hP hG hN
  intro n h ρ w a e r x l d
  replace e : bnd (edM (edS (gcM TryzG' mS)) Γ) K n h = some cz := e
  unfold edM at e
  rw [bnd_assoc] at e
  obtain ⟨v1, n1, h1, e1, f1⟩ := bnd_some e
  obtain ⟨rfl, rfl⟩ := pure_nil e1
  rw [bnd_assoc] at f1
  obtain ⟨v2, n2, h2, e2, f2⟩ := bnd_some f1
  obtain ⟨rfl, rfl⟩ := pure_fa e2
  rw [bnd_assoc] at f2
  obtain ⟨v3, n3, h3, e3, f3⟩ := bnd_some f2
  obtain ⟨rfl, rfl⟩ := pure_ld e3
  obtain ⟨hns, f9⟩ := onNs_some f3
  rw [bnd_assoc] at f9
  obtain ⟨v6, n6, h6, e6, e7⟩ := bnd_some f9
  replace e7 : K [(2, v6)] n6 h6 = some cz := e7
  obtain ⟨m, cl, E, hme, hnn, hmE, hwalk⟩ := coll_walk hx (c := ⟨Tryz.prog, TryzG', cE, Tryz.f50.ntmps, cρ, ch, cw, cz⟩) rfl rfl rfl (Q := Exit.then (fun a w => (Code.seq (.region 8 (opsOf Tryz.f50 8) false) (.seq (.region 9 (opsOf Tryz.f50 9) false) .ret)).wp Tryz.prog Q a w) Q) rfl (fun l it => rfl) (fun q g h => rfl)
    (fun k v l it n h r e => Walk.bodyK_body _ ((congrArg (fun m : M Value => m.run n h) (ed_body_eq (gcM TryzG' mS) F k v l it)).trans e)) e6 (fun m sz cl E hm => mk_maps r m sz cl E hm)
    (fun l' q g ρ2 w2 a2 eS r2 x2 l2 d2 => by
      show (Code.seq (.region 8 (opsOf Tryz.f50 8) false) (.seq (.region 9 (opsOf Tryz.f50 9) false) .ret)).wp Tryz.prog Q a2 w2
      obtain ⟨u9, n9, h9, e8, e9⟩ := bnd_some (show bnd (gcM TryzG' mS [l', f99]) (fun _ => ret l') q g = _ from eS)
      obtain ⟨rfl, rfl, rfl⟩ := ret_some e9
      have hrun : runK Tryz.prog TryzG' (coE 98 (gcM TryzG' mS)) Tryz.f50.ntmps (opsOf Tryz.f50 8) (List.range (opsOf Tryz.f50 8).size) ((edWalk (gcM TryzG' mS) F).Γs [v6, pn n3 0]) (fun Γ' => ret Γ') q g =
          some ((21, u9) :: (20, v6) :: (edWalk (gcM TryzG' mS) F).Γs [v6, pn n3 0], n6, h6) := by
        rw [ed_last_eq]
        show bnd (gcM TryzG' mS [v6, f99]) _ q g = _
        rw [bnd_of e8]
        rfl
      obtain ⟨Γ', n', h', hl, hz⟩ := runK_runL _ _ _ _ hrun
      obtain ⟨rfl, rfl, rfl⟩ := ret_some hz
      refine wp_seq (wp_region (runL_wpOps hE _ ρ2 g w2 _ _ a2 q _ _ r2 l2 hl fun a' ρ' w' l' d' r' x' => ?_))
      have hrun2 : runK Tryz.prog TryzG' (coE 98 (gcM TryzG' mS)) Tryz.f50.ntmps (opsOf Tryz.f50 9) (List.range (opsOf Tryz.f50 9).size) ((21, u9) :: (20, v6) :: (edWalk (gcM TryzG' mS) F).Γs [v6, pn n3 0]) (fun Γ' => ret Γ') n6 h6 =
          some ((2, v6) :: (22, v6) :: (21, u9) :: (20, v6) :: (edWalk (gcM TryzG' mS) F).Γs [v6, pn n3 0], n6, h6) := by
        rw [ed_end_eq]
        rfl
      obtain ⟨Γ2, n2, h2, hl2, hz2⟩ := runK_runL _ _ _ _ hrun2
      obtain ⟨rfl, rfl, rfl⟩ := ret_some hz2
      show (Code.seq (.region 9 (opsOf Tryz.f50 9) false) .ret).wp Tryz.prog Q a' w'
      refine wp_seq (wp_region (runL_wpOps hE _ ρ' _ w' _ _ a' _ _ _ r' l' hl2 fun a3 ρ3 w3 l3 d3 r3 x3 => ?_))
      exact wp_ret (hK _ _ _ _ _ _ e7 r3 ((x2.trans x').trans x3) (l3.some [2]) ((d3.trans d').trans d2)))
  -- the region ahead of the walk
  have hrun : runK Tryz.prog TryzG' noE Tryz.f50.ntmps (opsOf Tryz.f50 4) (List.range (opsOf Tryz.f50 4).size) Γ (fun Γ' => ret Γ') n3 h3 =
      some ((11, pn n3 0) :: (10, v3) :: (9, v2) :: (8, v1) :: (7, Fw.look Γ 0) :: Γ, n3 + 1, h3.set n3 (iterB m cl cl [])) := by
    rw [ed_range_eq, bnd_of e1, bnd_of e2, bnd_of e3, range_run hme hnn hmE]
    rfl
  obtain ⟨Γ', n', h', hl, hz⟩ := runK_runL _ _ _ _ hrun
  obtain ⟨rfl, rfl, rfl⟩ := ret_some hz
  refine wp_seq (wp_seq (wp_region (runL_wpOps (fun f m hf => by cases hf) _ ρ h3 w Γ _ a n3 _ _ r l hl fun a' ρ' w' l' d' r' x' => ?_)))
  refine hwalk ρ' w' a' r' (x.trans x') ?_ (d'.trans d)
  have := l'.some [3, 11]
  have h5l : Fw.look ((11, pn n3 0) :: (10, v3) :: (9, v2) :: (8, v1) :: (7, Fw.look Γ 0) :: Γ) 3 = .slice none 0 0 := hns
  simp only [List.map_cons, List.map_nil, h5l] at this
  exact this

noncomputable def kEd (sK : V → (V → St) → St) (t l : V) (K : V → St) : St := kNil t fun x => kFieldAddr 8 x fun x => kLoad x fun m => onNsK l (kColl sK m K)
theorem ed_one {m : List Value → M Value} : OneB (edS (gcM TryzG' m)) := by
  intro b len cap n n' h h' v e
  obtain ⟨u9, n9, h9, e8, e9⟩ := bnd_some (show bnd (gcM TryzG' m [Value.slice (some ⟨b, 0, none⟩) len cap, f99]) (fun _ => ret (Value.slice (some ⟨b, 0, none⟩) len cap)) n h = _ from e)
  obtain ⟨rfl, rfl, rfl⟩ := ret_some e9
  obtain ⟨h1, B, C, h2, _, _, h3, _, h4⟩ := gc_prop e8
  refine ⟨h1, B, C, h2, h3, fun n2 k2 hk => ?_⟩
  show bnd (gcM TryzG' m [Value.slice (some ⟨b, 0, none⟩) len cap, f99]) (fun _ => ret (Value.slice (some ⟨b, 0, none⟩) len cap)) n2 k2 = _
  rw [bnd_of (h4 n2 k2 hk)]
  rfl
theorem edSp_K {mS : List Value → M Value} {F i : Nat} {fs : KF} {kk : List (Nat × V) → (List (Nat × V) → St) → St} (hS : CRef fs mS) {Γ : List (Nat × V)} {Γ' : List (Nat × Value)} {K : List (Nat × V) → St} {K' : List (Nat × Value) → M Value} (h : GR Γ Γ')
    (hK : ∀ Γ1 Γ1', GR Γ1 Γ1' → Ref (K Γ1) (K' Γ1')) : Ref (kEd (fun l K => kGc fs l [.f 99 .nil] fun _ => K l) (lookK Γ 0) (lookK Γ 3) fun v => K [(2, v)]) (bnd ((edSp (gcM TryzG' mS) F kk).m i Γ') K') := by
  show Ref _ (bnd (edM (edS (gcM TryzG' mS)) Γ') K')
  unfold edM
  rw [bnd_assoc]
  refine kNil_ref (h 0) fun v1 w1 h1 => ?_
  rw [bnd_assoc]
  refine kFieldAddr_ref h1 fun v2 w2 h2 => ?_
  rw [bnd_assoc]
  refine kLoad_ref h2 fun v3 w3 h3 => onNsK_ref (h 3) ?_
  rw [bnd_assoc]
  refine kColl_ref (S := edS (gcM TryzG' mS)) (fun v w K K' hv hK => ?_) ed_one h3 fun v w hv => hK _ _ ((GR.nil []).cons 2 hv)
  unfold edS
  rw [bnd_assoc]
  exact kGc_ref hS hv (rest := [.f 99 .nil]) (ws := [f99]) (.cons (.of (.f 99 .nil)) .nil) rfl fun v' w' _ => hK _ _ hv
end Go.Fk
end
section
set_option linter.unusedVariables false
set_option maxRecDepth 20000
namespace Go.Fk
open Go Go.Fw Go.Proofs

def tnRest : AC := .seq (.reg 6 [3, 4, 15, 21, 22, 23]) (.blk 2 (.loop [3, 4, 15, 21, 22, 23] (.seq (.reg 7 [3, 4, 15, 21, 22, 23, 24]) (.seq (.cond (.tmp 24) .skip (.exit 2)) (.seq (.blk 3 (.seq (.reg 8 [3, 4, 7, 15, 21, 22, 23]) (.reg 9 [3, 4, 15, 21, 22, 23]))) (.reg 10 [3, 4, 15, 21, 22, 23]))))))
noncomputable def tnWalk : Walk where
  P := Tryz.prog
  G := TryzG'
  E := noE
  N := Tryz.f66.ntmps
  ops1 := opsOf Tryz.f66 4
  ops2 := opsOf Tryz.f66 5
  rest := tnRest
  opsR := opsOf Tryz.f66
  sp := noSp
  F := 2
  B := 0
  B1 := 1
  r1 := 4
  r2 := 5
  ti := 15
  tn := 16
  tok := 17
  te := 18
  ts := [3, 15]
  clean := fun q _ g => deadR [q, q + 1, q + 2] g

theorem tn_body_eq (k v x it : Value) : tnWalk.bodyK k v [x, it] = tnT k v x it := by kernel_rfl

def tnRange (x : Value) (Γ : List (Nat × Value)) : M (List (Nat × Value)) :=
  bnd (opNil x) fun a => bnd (opFieldAddr 0 a) fun b => bnd (opLoad b) fun c => bnd (opRange c) fun g =>
    ret ((15, g) :: (14, c) :: (13, b) :: (12, a) :: (11, x) :: Γ)
theorem tn_range_eq (Γ : List (Nat × Value)) : runK Tryz.prog TryzG' noE Tryz.f66.ntmps (opsOf Tryz.f66 3) (List.range (opsOf Tryz.f66 3).size) Γ (fun Γ' => ret Γ') = tnRange (Fw.look Γ 0) Γ := by kernel_rfl

theorem tn_OK (hm : Tryz.prog.follows .mixedOrders = true) : tnWalk.OK where
  hE := fun f m hf => by cases hf
  hm := hm
  hs := noSpM
  ha := by kernel_rfl
  hw := fun n n1 h => deadR_weak _ _
  o0 := ⟨((opsOf Tryz.f66 4)[0]?).getD default, by kernel_rfl, by kernel_rfl, by kernel_rfl, by kernel_rfl⟩
  o1 := ⟨((opsOf Tryz.f66 4)[1]?).getD default, by kernel_rfl, by kernel_rfl, by kernel_rfl, by kernel_rfl⟩
  sz1 := by kernel_rfl
  o2 := ⟨((opsOf Tryz.f66 5)[0]?).getD default, by kernel_rfl, by kernel_rfl, by kernel_rfl, by kernel_rfl⟩
  ntn := Nat.le_of_ble_eq_true (by kernel_rfl)
  ntok := Nat.le_of_ble_eq_true (by kernel_rfl)
  nte := Nat.le_of_ble_eq_true (by kernel_rfl)
  d1 := by show (16 : Nat) ≠ 17; omega
  d2 := by show (15 : Nat) ≠ 16; omega
  d3 := by show (15 : Nat) ≠ 17; omega
  m1 := by show (16 : Nat) ∉ [3, 15]; simp
  m2 := by show (17 : Nat) ∉ [3, 15]; simp
end Go.Fk
end
section
set_option linter.unusedVariables false
set_option maxRecDepth 20000
namespace Go.Fk
open Go Go.Fw Go.Proofs

noncomputable def tnSp (k : List (Nat × V) → (List (Nat × V) → St) → St) : Sp where
  code := fun _ => .seq (.region 3 (opsOf Tryz.f66 3) false) tnWalk.code
  m := fun _ Γ => bnd (tnM (Fw.look Γ 0) (Fw.look Γ 3)) fun _ => ret [(3, Fw.look Γ 3)]
  k := fun _ => k
  ex := fun _ => .normal

theorem tnSp_M {k : List (Nat × V) → (List (Nat × V) → St) → St} (hm : Tryz.prog.follows .mixedOrders = true) : SpM Tryz.prog TryzG' Tryz.f66.ntmps (tnSp k) := by
  intro i c Q Γ K hP hG hN hK
  have hE0 : EnvOK Tryz.prog TryzG' noE := fun f m hf => by cases hf
  have hx := tn_OK hm
  obtain ⟨cP, cG, cE, cN, cρ, ch, cw, cz⟩ := c
  dsimp only at hP hG hN
  subst hP hG hN
  intro n h ρ w a e r x l d
  replace e : bnd (bnd (tnM (Fw.look Γ 0) (Fw.look Γ 3)) fun _ => ret [(3, Fw.look Γ 3)]) K n h = some cz := e
  rw [bnd_assoc] at e
  obtain ⟨u, n1, h1, e1, e2⟩ := bnd_some e
  replace e2 : K [(3, Fw.look Γ 3)] n1 h1 = some cz := e2
  unfold tnM at e1
  obtain ⟨va, na, ha, f1, e3⟩ := bnd_some e1
  obtain ⟨rfl, rfl⟩ := pure_nil f1
  obtain ⟨vb, nb, hb, f2, e4⟩ := bnd_some e3
  obtain ⟨rfl, rfl⟩ := pure_fa f2
  obtain ⟨mv, nm, hmm, f3, e5⟩ := bnd_some e4
  obtain ⟨rfl, rfl⟩ := pure_ld f3
  obtain ⟨m, dd, cl, L, rfl, hback, X, hcl, C, hn1⟩ := tn_all e5 fun m sz cl E hm => mk_maps r m sz cl E hm
  have hi0 : hmm.get nm = none := X.fresh nm (Nat.le_refl _) (by omega)
  have hnm : nm ≠ m := fun q => by rw [q, X.hm] at hi0; cases hi0
  have hnd : nm ≠ dd := fun q => by rw [q, X.hd] at hi0; cases hi0
  have hrun : runK Tryz.prog TryzG' noE Tryz.f66.ntmps (opsOf Tryz.f66 3) (List.range (opsOf Tryz.f66 3).size) Γ (fun Γ' => ret Γ') nm hmm =
      some ((15, pn nm 0) :: (14, .map (some m)) :: (13, vb) :: (12, va) :: (11, Fw.look Γ 0) :: Γ, nm + 1, hmm.set nm (iterB m cl cl [])) := by
    rw [tn_range_eq]
    unfold tnRange
    rw [bnd_of f1, bnd_of f2, bnd_of f3]
    have hr : ∀ K : Value → M (List (Nat × Value)), bnd (opRange (.map (some m))) K nm hmm = K (pn nm 0) (nm + 1) (hmm.set nm (iterB m cl cl [])) := fun K => by
      show bnd (bnd (mpGet m) _) K nm hmm = _
      rw [bnd_assoc, bnd_of (mpGet_of (cs := .int .u64 (Int.ofNat 5) :: .int .u64 (Int.ofNat cl) :: flatE (L.map TEnt.e)) X.hm)]
      dsimp only
      rw [bnd_assoc, bnd_of (new_of hi0 rfl)]
      rfl
    rw [hr]
    rfl
  obtain ⟨Γ', n', h', hl, hz⟩ := runK_runL _ _ _ _ hrun
  obtain ⟨rfl, rfl, rfl⟩ := ret_some hz
  have hi : (hmm.set nm (iterB m cl cl [])).get nm = some (iterB m cl cl []) := H.get_set_same _ _ _
  have hm' : (hmm.set nm (iterB m cl cl [])).get m = some (mapB 5 cl (L.map TEnt.e)) := by rw [H.get_set_ne _ _ (Ne.symm hnm)]; exact X.hm
  have hd' : (hmm.set nm (iterB m cl cl [])).get dd = some (mapB 5 0 []) := by rw [H.get_set_ne _ _ (Ne.symm hnd)]; exact X.hd
  refine wp_seq (wp_region (runL_wpOps hE0 _ ρ hmm w Γ _ a nm _ _ r l hl fun a' ρ' w' l' d' r' x' => ?_))
  show tnWalk.code.wp Tryz.prog Q a' w'
  obtain ⟨Li, hLi⟩ := r'.loc hi
  have hoff := r'.iterOff hi (isMap_iterB _ _ _ _) (fun sz c E q => by unfold iterB mapB at q; simp at q) (fun sz E q => by unfold iterB lookB at q; simp at q) hLi
  have I0 : TInv m cl dd nm L hmm [] [.map (some dd), pn nm 0] (nm + 1) (hmm.set nm (iterB m cl cl [])) :=
    ⟨rfl, rfl, List.nodup_nil, (fun t ht => nomatch ht), hi, hm', hd', (fun j t hj => by simp at hj), fun x h1 h2 => by omega, fun x h1 h2 _ => by rw [H.get_set_ne _ _ h1]⟩
  refine walk_ok hx (c := ⟨Tryz.prog, TryzG', cE, Tryz.f66.ntmps, ρ', hmm.set nm (iterB m cl cl []), w', cz⟩) rfl rfl rfl hoff X.nd (fun t ht => ?_)
    (fun s q g => ∃ π, List.Perm π (L.map (·.t)) ∧ TInv m cl dd nm L hmm π s q g) ?_
    (s := [.map (some dd), pn nm 0]) (n := nm + 1) hi hm' (borns_e L) hLi rfl (fun t ht => .inr ht) (fun t ht => ⟨ht, by simp⟩) X.nd ?_ r' (Ext.refl _ _ _) ?_ (d'.trans d)
  · obtain ⟨e, he, rfl⟩ := List.mem_map.1 ht
    exact hcl e he
  · rintro s q g ρ2 w2 a2 ⟨π, hp, I⟩ r2 x2 l2 d2
    have hW : Weak g (g.set nm dead) := fun y => by
      rw [H.get_set]
      split
      · rename_i hy; subst hy; exact .inr ⟨by rw [I.hi]; rfl, rfl⟩
      · exact .inl rfl
    have T := tn_turned X C hp I ρ' ρ2
    have hs := I.s_eq
    have hq : q = n1 := by rw [I.n_eq, hn1, hp.length_eq, List.length_map]
    subst hs
    have r3 := R.turned T (r2.weak hW) r' x2.le
    have x3 := Ext.turned T r' (x2.trans (Ext.weak hW))
    have l3 : Live ρ2 Tryz.f66.ntmps [(3, .map (some dd))] a2 := by
      have := l2.some [3]
      exact this
    have l4 := Live.turned T l3
    rw [← hback] at l4
    rw [hq] at *
    exact hK _ _ _ _ _ _ e2 r3 ((x.trans x').trans x3) l4 d2
  · intro π hp
    obtain ⟨s', q', g', hr, hI⟩ := rounds_of_inv (good := fun s => Fw.look (tnWalk.Γs s) tnWalk.ti = .pointer (some ⟨nm, 0, none⟩)) (body := tnWalk.body) (clean := tnWalk.clean) (i := nm) (m := m) (sz := 5) (cl := cl) (bs := L.map (·.t)) (TInv m cl dd nm L hmm)
      (fun seen s q g t I ht hs => by
        obtain ⟨E1, E2, k, v, vs, n1, h1, g1, g2, g3, g4, g5, g6, g7, g8⟩ := tInv_step X (body := tnWalk.body) (fun k v n h r e => Walk.bodyK_body _ ((congrArg (fun m : M Value => m.run n h) (tn_body_eq k v (.map (some dd)) (pn nm 0))).trans e)) seen s q g t I ht hs
        refine ⟨E1, E2, k, v, vs, n1, h1, g1, g2, g3, g4, g5, g6, ?_, g8⟩
        rw [g7]
        rfl) π [] _ _ _ I0 (hp.nodup_iff.2 X.nd) (fun t ht => ⟨hp.mem_iff.1 ht, by simp⟩)
    rw [List.nil_append] at hI
    exact ⟨s', q', g', hr, π, hp, hI⟩
  · have := l'.some [3, 15]
    have e3 : Fw.look ((15, pn nm 0) :: (14, .map (some m)) :: (13, vb) :: (12, va) :: (11, Fw.look Γ 0) :: Γ) 3 = .map (some dd) := hback
    simp only [List.map_cons, List.map_nil, e3] at this
    exact this
end Go.Fk
end
section
set_option linter.unusedVariables false
namespace Go.Fk
open Go Go.Fw Go.Proofs

noncomputable def kTn (x back : V) (k : St) : St := kNil x fun p => kFieldAddr 0 p fun q => kLoad q fun mv => kTnQ mv back k
theorem kTn_ref {x back : V} {w u : Value} (hx : VRel x w) (hb : VRel back u) {k : St} {K' : Unit → M Value} (hK : Ref k (K' ())) : Ref (kTn x back k) (bnd (tnM w u) K') := by
  unfold tnM kTn
  rw [bnd_assoc]
  refine kNil_ref hx fun v1 w1 h1 => ?_
  rw [bnd_assoc]
  refine kFieldAddr_ref h1 fun v2 w2 h2 => ?_
  rw [bnd_assoc]
  exact kLoad_ref h2 fun v3 w3 h3 => kTnQ_ref h3 hb hK
theorem tnSp_K {i : Nat} {kk : List (Nat × V) → (List (Nat × V) → St) → St} {Γ : List (Nat × V)} {Γ' : List (Nat × Value)} {K : List (Nat × V) → St} {K' : List (Nat × Value) → M Value} (h : GR Γ Γ')
    (hK : ∀ Γ1 Γ1', GR Γ1 Γ1' → Ref (K Γ1) (K' Γ1')) : Ref (kTn (lookK Γ 0) (lookK Γ 3) (K [(3, lookK Γ 3)])) (bnd ((tnSp kk).m i Γ') K') := by
  show Ref _ (bnd (bnd (tnM (Fw.look Γ' 0) (Fw.look Γ' 3)) fun _ => ret [(3, Fw.look Γ' 3)]) K')
  rw [bnd_assoc]
  exact kTn_ref (h 0) (h 3) (hK [(3, lookK Γ 3)] [(3, Fw.look Γ' 3)] ((GR.nil []).cons 3 (h 3)))
end Go.Fk
end
