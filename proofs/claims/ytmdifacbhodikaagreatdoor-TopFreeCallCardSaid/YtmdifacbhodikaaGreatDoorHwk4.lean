/-
  The framework by which the law is proved: FwWk, FwMk, FwMkT, FwMkR, FwCo, FwMkM, FwCoM, FkI, FkJ, FkM, FkCo, FwGb, FkO, FwS, FwT, FwU, FwU2.
-/
import Derived.Test.YtmdifacbhodikaaGreatDoorHwk3
import Derived.Test.YtmdifacbhodikaaGreatDoorHwk2
import Derived.Deep.Slices
import Derived.OpenShut
import Derived.LaidMore
import Derived.LaidLaws
import Derived.LaidHandle
import Derived.Stop.Joined
import Derived.SevenTiedAt
set_option linter.all false
section
set_option linter.unusedVariables false
namespace Go.Fw

/-! ## Heaps that have grown from one heap, and look alike -/

/-- Each branch leads to a block. -/
def Can : H → Prop
  | .leaf => True
  | .node l v r => Can l ∧ Can r ∧ (v.isSome = true ∨ l ≠ .leaf ∨ r ≠ .leaf)
/-- The second has grown from the first. -/
def Gr : H → H → Prop
  | .leaf, t => Can t
  | .node l v r, .leaf => False
  | .node l v r, .node l' v' r' => Gr l l' ∧ Gr r r'

theorem Gr.refl : ∀ t : H, Gr t t
  | .leaf => trivial
  | .node l v r => ⟨Gr.refl l, Gr.refl r⟩
theorem put_ne_leaf {f n : Nat} {t : H} {x : Blk} (h : n < f) : H.put f t n x ≠ .leaf := by
  cases f with
  | zero => omega
  | succ f =>
    cases t with
    | leaf => unfold H.put; split <;> (try split) <;> simp
    | node l v r => unfold H.put; split <;> (try split) <;> simp
theorem Can.put : ∀ (f : Nat) (t : H) (n : Nat) (x : Blk), n < f → Can t → Can (H.put f t n x)
  | 0, _, _, _, h, _ => by omega
  | f + 1, .leaf, n, x, h, hc => by
    unfold H.put
    split
    · exact ⟨trivial, trivial, .inl rfl⟩
    · split
      · exact ⟨Can.put f .leaf _ x (by omega) trivial, trivial, .inr (.inl (put_ne_leaf (by omega)))⟩
      · exact ⟨trivial, Can.put f .leaf _ x (by omega) trivial, .inr (.inr (put_ne_leaf (by omega)))⟩
  | f + 1, .node l v r, n, x, h, hc => by
    unfold H.put
    split
    · exact ⟨hc.1, hc.2.1, .inl rfl⟩
    · split
      · exact ⟨Can.put f l _ x (by omega) hc.1, hc.2.1, .inr (.inl (put_ne_leaf (by omega)))⟩
      · exact ⟨hc.1, Can.put f r _ x (by omega) hc.2.1, .inr (.inr (put_ne_leaf (by omega)))⟩
theorem Gr.put : ∀ (f : Nat) (s t : H) (n : Nat) (x : Blk), n < f → Gr s t → Gr s (H.put f t n x)
  | f, .leaf, t, n, x, h, hg => Can.put f t n x h hg
  | f, .node _ _ _, .leaf, n, x, h, hg => hg.elim
  | 0, .node _ _ _, .node _ _ _, n, x, h, hg => by omega
  | f + 1, .node l v r, .node l' v' r', n, x, h, hg => by
    unfold H.put
    split
    · exact hg
    · split
      · exact ⟨Gr.put f l l' _ x (by omega) hg.1, hg.2⟩
      · exact ⟨hg.1, Gr.put f r r' _ x (by omega) hg.2⟩
theorem Gr.set {s t : H} (hg : Gr s t) (n : Nat) (x : Blk) : Gr s (t.set n x) := Gr.put _ s t n x (by omega) hg

theorem get_l (l r : H) (v : Option Blk) (n : Nat) : (H.node l v r).get (2 * n + 1) = l.get n := by
  show (if 2 * n + 1 = 0 then v else if (2 * n + 1) % 2 = 1 then l.get ((2 * n + 1) / 2) else r.get ((2 * n + 1) / 2 - 1)) = _
  rw [if_neg (by omega), if_pos (by omega)]
  congr 1; omega
theorem get_r (l r : H) (v : Option Blk) (n : Nat) : (H.node l v r).get (2 * n + 2) = r.get n := by
  show (if 2 * n + 2 = 0 then v else if (2 * n + 2) % 2 = 1 then l.get ((2 * n + 2) / 2) else r.get ((2 * n + 2) / 2 - 1)) = _
  rw [if_neg (by omega), if_neg (by omega)]
  congr 1; omega
theorem Can.some : ∀ {t : H}, Can t → t ≠ .leaf → ∃ n, (t.get n).isSome = true
  | .leaf, _, h => absurd rfl h
  | .node l v r, hc, _ => by
    rcases hc.2.2 with h | h | h
    · exact ⟨0, h⟩
    · obtain ⟨n, hn⟩ := Can.some hc.1 h
      exact ⟨2 * n + 1, by rw [get_l]; exact hn⟩
    · obtain ⟨n, hn⟩ := Can.some hc.2.1 h
      exact ⟨2 * n + 2, by rw [get_r]; exact hn⟩
theorem Can.ext : ∀ {t u : H}, Can t → Can u → (∀ n, t.get n = u.get n) → t = u
  | .leaf, .leaf, _, _, _ => rfl
  | .leaf, .node l v r, _, hu, h => by
    obtain ⟨n, hn⟩ := Can.some hu (by simp)
    rw [← h n] at hn
    cases hn
  | .node l v r, .leaf, ht, _, h => by
    obtain ⟨n, hn⟩ := Can.some ht (by simp)
    rw [h n] at hn
    cases hn
  | .node l v r, .node l' v' r', ht, hu, h => by
    have h0 : v = v' := h 0
    have h1 : l = l' := Can.ext ht.1 hu.1 fun n => by have := h (2 * n + 1); rwa [get_l, get_l] at this
    have h2 : r = r' := Can.ext ht.2.1 hu.2.1 fun n => by have := h (2 * n + 2); rwa [get_r, get_r] at this
    rw [h0, h1, h2]
theorem Gr.ext : ∀ {s t u : H}, Gr s t → Gr s u → (∀ n, t.get n = u.get n) → t = u
  | .leaf, t, u, ht, hu, h => Can.ext ht hu h
  | .node _ _ _, .leaf, _, ht, _, _ => ht.elim
  | .node _ _ _, .node _ _ _, .leaf, _, hu, _ => hu.elim
  | .node l v r, .node l1 v1 r1, .node l2 v2 r2, ht, hu, h => by
    have h0 : v1 = v2 := h 0
    have h1 : l1 = l2 := Gr.ext ht.1 hu.1 fun n => by have := h (2 * n + 1); rwa [get_l, get_l] at this
    have h2 : r1 = r2 := Gr.ext ht.2 hu.2 fun n => by have := h (2 * n + 2); rwa [get_r, get_r] at this
    rw [h0, h1, h2]

/-! ## Rounds from what they keep -/

theorem rounds_of_inv {good : List Value → Prop} {body : Value → Value → List Value → M Value} {clean : Nat → Nat → H → H} {i m sz cl : Nat} {bs : List Nat} (Inv : List Nat → List Value → Nat → H → Prop)
    (hstep : ∀ seen s n h t, Inv seen s n h → t ∈ bs → t ∉ seen → ∃ (E E2 : List (Value × Value × Nat)) (k v : Value) (vs : Array Value) (n1 : Nat) (h1 : H), h.get m = some (mapB sz cl E) ∧ (k, v, t) ∈ E ∧
      (body k v s).run n (h.set i (iterB m cl cl (seen ++ [t]))) = some (.tuple vs, n1, h1) ∧ (clean n n1 h1).get i = some (iterB m cl cl (seen ++ [t])) ∧ (clean n n1 h1).get m = some (mapB sz cl E2) ∧ borns E2 = bs ∧ good vs.toList ∧
      Inv (seen ++ [t]) vs.toList n1 (clean n n1 h1)) :
    ∀ (π seen : List Nat) (s : List Value) (n : Nat) (h : H), Inv seen s n h → π.Nodup → (∀ t, t ∈ π → t ∈ bs ∧ t ∉ seen) → ∃ s' n' h', Rounds good body clean i m sz cl bs π seen s n h s' n' h' ∧ Inv (seen ++ π) s' n' h'
  | [], seen, s, n, h, hI, _, _ => ⟨s, n, h, .nil, by rw [List.append_nil]; exact hI⟩
  | t :: π, seen, s, n, h, hI, hnd, hmem => by
    have ht := hmem t (List.mem_cons_self ..)
    obtain ⟨E, E2, k, v, vs, n1, h1, e1, e2, e3, e4, e5, e6, e7, e8⟩ := hstep seen s n h t hI ht.1 ht.2
    have hnd' := List.nodup_cons.1 hnd
    obtain ⟨s', n', h', r, hI'⟩ := rounds_of_inv Inv hstep π (seen ++ [t]) vs.toList n1 (clean n n1 h1) e8 hnd'.2 fun u hu => ⟨(hmem u (List.mem_cons_of_mem _ hu)).1, fun hs => by
      rcases List.mem_append.1 hs with hs | hs
      · exact (hmem u (List.mem_cons_of_mem _ hu)).2 hs
      · have := List.mem_singleton.1 hs; subst this; exact hnd'.1 hu⟩
    exact ⟨s', n', h', .cons e1 e2 e3 e4 e5 e6 e7 r, by rw [List.append_assoc] at hI'; exact hI'⟩

end Go.Fw
end
section
set_option linter.unusedVariables false
namespace Go.Fw

/-- A function that turns one block does so in each heap that has the block. -/
theorem gc_prop {G : Nat} {m : List Value → M Value} {b len cap : Nat} {rest : List Value} {n n' : Nat} {h h' : H} {v : Value} (e : gcM G m (.slice (some ⟨b, 0, none⟩) len cap :: rest) n h = some (v, n', h')) :
    n' = n ∧ ∃ B C, h.get b = some B ∧ (B.kind = .own ∨ B.kind = .grow) ∧ B.cells.all okC0 = true ∧ h' = h.set b C ∧ (C.kind = .own ∨ C.kind = .grow) ∧
      ∀ n2 h2, h2.get b = some B → gcM G m (.slice (some ⟨b, 0, none⟩) len cap :: rest) n2 h2 = some (v, n2, h2.set b C) := by
  replace e : gcF G m (.slice (some ⟨b, 0, none⟩) len cap :: rest) n h = some (v, n', h') := e
  unfold gcF at e
  cases hb : h.get b with
  | none => simp only [hb] at e; cases e
  | some B =>
  simp only [hb] at e
  split at e
  case isFalse => cases e
  rename_i hc
  cases hm : (m (.slice (some ⟨G, 0, none⟩) len cap :: rest)).run (G + 1) ((deads G).set G B) with
  | none => simp only [hm] at e; cases e
  | some z =>
  obtain ⟨u, q, S⟩ := z
  simp only [hm] at e
  cases hS : S.get G with
  | none => simp only [hS] at e; cases e
  | some C =>
  simp only [hS] at e
  split at e
  case isFalse => cases e
  rename_i hC
  simp only [Option.some.injEq, Prod.mk.injEq] at e
  obtain ⟨rfl, rfl, rfl⟩ := e
  refine ⟨rfl, B, C, rfl, hc.1, hc.2.1, rfl, by rw [hC.1]; exact hc.1, fun n2 h2 hb2 => ?_⟩
  show gcF G m (.slice (some ⟨b, 0, none⟩) len cap :: rest) n2 h2 = some (gcV G b u, n2, h2.set b C)
  unfold gcF
  simp only [hb2]
  rw [if_pos hc]
  simp only [hm, hS]
  rw [if_pos hC]

/-- An entry, its list's block as it was, as it is sorted, as it is cut. -/
structure Ent where
  k : Value
  v : Value
  t : Nat
  b : Nat
  B : Blk
  C1 : Blk
  C2 : Blk
  v' : Value
  l : Nat

structure EntOK (S C : List Value → M Value) (z : Value) (e : Ent) : Prop where
  hv : ∃ len cap, e.v = .slice (some ⟨e.b, 0, none⟩) len cap
  hv' : ∃ cap, e.v' = .slice (some ⟨e.b, 0, none⟩) e.l cap
  hS : ∃ sv, ∀ n h, h.get e.b = some e.B → (S [e.v, z]) n h = some (sv, n, h.set e.b e.C1)
  hC : ∀ n h, h.get e.b = some e.C1 → (C [e.v]) n h = some (e.v', n, h.set e.b e.C2)
  plain : e.B.cells.all okC0 = true
  kind : e.B.kind = .own ∨ e.B.kind = .grow
  kind2 : e.C2.kind = .own ∨ e.C2.kind = .grow

def blkOf : Value → Nat
  | .slice (some ⟨b, _, _⟩) _ _ => b
  | _ => 0

def goM (S C : List Value → M Value) (z : Value) : List (Value × Value × Nat) → Nat → M (List (Value × Value × Nat) × Nat)
  | [], tot => ret ([], tot)
  | (k, v, t) :: E, tot => bnd (S [v, z]) fun _ => bnd (C [v]) fun v' => bnd (new [] .dead) fun _ =>
    match v, v' with
    | .slice (some ⟨b, 0, none⟩) _ _, .slice (some ⟨b', 0, none⟩) l _ => if b' = b ∧ tot + l < 4611686018427387904 then bnd (goM S C z E (tot + l)) fun q => ret ((k, v', t) :: q.1, q.2) else fail
    | _, _ => fail

def sumL (L : List Ent) : Nat := (L.map (·.l)).sum

theorem go_some {G : Nat} {mS mC : List Value → M Value} {z : Value} : ∀ {E : List (Value × Value × Nat)} {tot n n' : Nat} {h h' : H} {q : List (Value × Value × Nat) × Nat}, (E.map fun p => blkOf p.2.1).Nodup → goM (gcM G mS) (gcM G mC) z E tot n h = some (q, n', h') →
    ∃ L : List Ent, E = L.map (fun e => (e.k, e.v, e.t)) ∧ (∀ e, e ∈ L → EntOK (gcM G mS) (gcM G mC) z e ∧ h.get e.b = some e.B) ∧ (L.map (·.b)).Nodup ∧ q.1 = L.map (fun e => (e.k, e.v', e.t)) ∧ q.2 = tot + sumL L ∧ (L ≠ [] → q.2 < 4611686018427387904) ∧ n' = n + L.length ∧
      (∀ x, n ≤ x → x < n' → h.get x = none) ∧ (∀ e, e ∈ L → h'.get e.b = some e.C2) ∧ (∀ x, n ≤ x → x < n' → h'.get x = some dead) ∧ (∀ x, (∀ e, e ∈ L → x ≠ e.b) → (n ≤ x → x < n' → False) → h'.get x = h.get x) ∧ (∀ s, Gr s h → Gr s h')
  | [], tot, n, n', h, h', q, _, e => by
    obtain ⟨rfl, rfl, rfl⟩ := ret_some e
    exact ⟨[], rfl, (fun e he => nomatch he), List.nodup_nil, rfl, rfl, (fun h => absurd rfl h), rfl, (fun x _ _ => by omega), (fun e he => nomatch he), (fun x _ _ => by omega), (fun x _ _ => rfl), (fun s h => h)⟩
  | (k, v, t) :: E, tot, n, n', h, h', q, hnd, e => by
    obtain ⟨sv, n1, h1, e1, e2⟩ := bnd_some (show bnd _ _ n h = _ from e)
    obtain ⟨v', n2, h2, e3, e4⟩ := bnd_some e2
    obtain ⟨nb, n3, h3, e5, e6⟩ := bnd_some e4
    split at e6
    case h_2 => cases e6
    rename_i b len cap b' l cap'
    split at e6
    case isFalse => cases e6
    rename_i hc
    obtain ⟨rfl, hlt⟩ := hc
    obtain ⟨q', n4, h4, e7, e8⟩ := bnd_some e6
    obtain ⟨rfl, rfl, rfl⟩ := ret_some e8
    obtain ⟨rfl, B, C1, hB, hk, hpl, rfl, hkC, hS⟩ := gc_prop e1
    obtain ⟨rfl, B2, C2, hB2, _, _, rfl, hkC2, hC⟩ := gc_prop e3
    rw [H.get_set_same] at hB2
    cases hB2
    obtain ⟨rfl, rfl, hfresh, rfl, _⟩ := new_some e5
    have hnd' := List.nodup_cons.1 hnd
    have hbn : b' ≠ nb := by
      rintro rfl
      rw [H.get_set_same] at hfresh
      cases hfresh
    have hn0 : h.get nb = none := by
      rw [H.get_set_ne _ _ (Ne.symm hbn), H.get_set_ne _ _ (Ne.symm hbn)] at hfresh
      exact hfresh
    obtain ⟨L, hE, hL, hbs, hq1, hq2, hq3, hn', hfr, hC2', hdead, hoth, hgr⟩ := go_some hnd'.2 e7
    have hbL : ∀ e, e ∈ L → e.b ≠ b' := by
      intro e he hbe
      apply hnd'.1
      obtain ⟨len2, cap2, hv⟩ := (hL e he).1.hv
      refine List.mem_map.2 ⟨(e.k, e.v, e.t), by rw [hE]; exact List.mem_map.2 ⟨e, he, rfl⟩, ?_⟩
      show blkOf e.v = b'
      rw [hv, ← hbe]
      rfl
    have hbN : ∀ e, e ∈ L → e.b ≠ nb := by
      intro e he hbe
      have h1 := (hL e he).2
      rw [hbe, H.get_set_same] at h1
      have h2 := (hL e he).1.kind
      rw [← Option.some.inj h1] at h2
      rcases h2 with h2 | h2 <;> cases h2
    have hback : ∀ e, e ∈ L → h.get e.b = some e.B := by
      intro e he
      have h1 := (hL e he).2
      rw [H.get_set_ne _ _ (hbN e he), H.get_set_ne _ _ (hbL e he), H.get_set_ne _ _ (hbL e he)] at h1
      exact h1
    refine ⟨⟨k, .slice (some ⟨b', 0, none⟩) len cap, t, b', B, C1, C2, .slice (some ⟨b', 0, none⟩) l cap', l⟩ :: L, by rw [List.map_cons, ← hE], ?_, ?_, ?_, ?_, ?_, ?_, ?_, ?_, ?_, ?_, ?_⟩
    · intro e he
      rcases List.mem_cons.1 he with rfl | he
      · exact ⟨⟨⟨len, cap, rfl⟩, ⟨cap', rfl⟩, ⟨sv, fun n h hh => hS n h hh⟩, fun n h hh => hC n h hh, hpl, hk, hkC2⟩, hB⟩
      · exact ⟨(hL e he).1, hback e he⟩
    · rw [List.map_cons, List.nodup_cons]
      refine ⟨fun hm => ?_, hbs⟩
      obtain ⟨e, he, hbe⟩ := List.mem_map.1 hm
      exact hbL e he hbe
    · rw [List.map_cons, ← hq1]
    · rw [hq2]; show tot + l + sumL L = tot + (l + sumL L); omega
    · intro _
      by_cases hLn : L = []
      · subst hLn
        rw [hq2]
        show tot + l + 0 < _
        omega
      · exact hq3 hLn
    · rw [hn', List.length_cons]; omega
    · intro x h1 h2
      by_cases hx : x = nb
      · rw [hx]; exact hn0
      · have := hfr x (by omega) h2
        by_cases hxb : x = b'
        · rw [hxb] at this h1
          rw [H.get_set_ne _ _ hbn, H.get_set_same] at this
          cases this
        · rw [H.get_set_ne _ _ hx, H.get_set_ne _ _ hxb, H.get_set_ne _ _ hxb] at this
          exact this
    · intro e he
      rcases List.mem_cons.1 he with rfl | he
      · show h'.get b' = some C2
        rw [hoth b' (fun e he => Ne.symm (hbL e he)) (fun h1 h2 => by
          have := hfr b' h1 h2
          rw [H.get_set_ne _ _ hbn, H.get_set_same] at this
          cases this), H.get_set_ne _ _ hbn, H.get_set_same]
      · exact hC2' e he
    · intro x h1 h2
      by_cases hx : x = nb
      · subst hx
        rw [hoth x (fun e he => Ne.symm (hbN e he)) (fun h1 _ => by omega), H.get_set_same]
        rfl
      · exact hdead x (by omega) h2
    · intro x h1 h2
      have hxb : x ≠ b' := h1 _ (List.mem_cons_self ..)
      have hxn : x ≠ nb := fun hx => h2 (by omega) (by rw [hx, hn']; omega)
      rw [hoth x (fun e he => h1 e (List.mem_cons_of_mem _ he)) (fun a b => h2 (by omega) b), H.get_set_ne _ _ hxn, H.get_set_ne _ _ hxb, H.get_set_ne _ _ hxb]
    · intro s hs
      exact hgr s (((hs.set _ _).set _ _).set _ _)

end Go.Fw
end
section
set_option linter.unusedVariables false
namespace Go.Fw
open Go.Fk (rd_of rdN_of wr1_of wrN_of new_of mpGet_of mpSet_of)

abbrev pn (b o : Nat) : Value := .pointer (some ⟨b, o, none⟩)
def zeros5 : List Value := [.int .i64 0, .int .i64 0, .int .i64 0, .int .i64 0, .int .i64 0]

def mkT (S C : List Value → M Value) (z k v x it : Value) : M Value :=
  bnd (opExtract (.tuple #[k, v]) 0) fun t124 => bnd (opExtract (.tuple #[k, v]) 1) fun t125 => bnd (opPtr zeros5) fun t12 => bnd (opStoreN 5 t12 t124) fun _ =>
  bnd (S [t125, z]) fun _ =>
  bnd (opNil x) fun a => bnd (opFieldAddr 3 a) fun a1 => bnd (opLoad a1) fun a2 => bnd (opNil a2) fun a3 => bnd (opFieldAddr 0 a3) fun a4 => bnd (opLoad a4) fun a5 => bnd (opLoadN 5 t12) fun a6 =>
  bnd (C [t125]) fun v' => bnd (opChk false a1 a2) fun _ => bnd (opChk false a4 a5) fun _ => bnd (opChk true t12 a6) fun _ => bnd (opInsert 5 a5 a6 v') fun _ =>
  bnd (opNil x) fun b => bnd (opFieldAddr 3 b) fun b1 => bnd (opLoad b1) fun b2 => bnd (opNil b2) fun b3 => bnd (opFieldAddr 1 b3) fun b4 => bnd (opLoad b4) fun b5 =>
  bnd (opNil x) fun c => bnd (opFieldAddr 3 c) fun c1 => bnd (opLoad c1) fun c2 => bnd (opNil c2) fun c3 => bnd (opFieldAddr 0 c3) fun c4 => bnd (opLoad c4) fun c5 => bnd (opLoadN 5 t12) fun c6 =>
  bnd (opLookup 5 (.slice none 0 0) false c5 c6) fun l => bnd (opChk false b1 b2) fun _ => bnd (opChk false b4 b5) fun _ => bnd (opLen l) fun s => bnd (opBin .add b5 s) fun s =>
  bnd (opNil b2) fun d => bnd (opFieldAddr 1 d) fun d1 => bnd (opStore d1 s) fun _ => ret (.tuple #[x, it])

section
variable {α : Type} {n : Nat} {h : H}
theorem q_nil {b o : Nat} {K : Value → M α} : bnd (opNil (pn b o)) K n h = K (pn b o) n h := rfl
theorem q_fa {f b o : Nat} {K : Value → M α} : bnd (opFieldAddr f (pn b o)) K n h = K (pn b (o + f)) n h := rfl
theorem q_ld {b o : Nat} {cs : List Value} {kd : Kind} {v : Value} {K : Value → M α} (hb : h.get b = some ⟨cs, kd⟩) (hk : kd ≠ .dead) (hv : cs[o]? = some v) : bnd (opLoad (pn b o)) K n h = K v n h := by
  show bnd (rd b o) K n h = _
  rw [bnd_of (rd_of hb hk hv)]
theorem q_ldN {b k : Nat} {cs : List Value} {kd : Kind} {K : Value → M α} (hb : h.get b = some ⟨cs, kd⟩) (hk : kd ≠ .dead) (hl : cs.length = k) : bnd (opLoadN k (pn b 0)) K n h = K (.agg cs.toArray) n h := by
  show bnd (bnd (rdN b 0 k) _) K n h = _
  rw [bnd_assoc, bnd_of (rdN_of hb hk (by omega))]
  show K (.agg ((cs.drop 0).take k).toArray) n h = _
  rw [List.drop_zero, List.take_of_length_le (by omega)]
theorem q_ck {b o : Nat} {cs : List Value} {kd : Kind} {v : Value} {K : Unit → M α} (hb : h.get b = some ⟨cs, kd⟩) (hk : kd ≠ .dead) (hv : cs[o]? = some v) (hv2 : veq v v = true) : bnd (opChk false (pn b o) v) K n h = K () n h := by
  have hl : o < cs.length := (List.getElem?_eq_some_iff.1 hv).1
  show bnd (bnd (rdN b o 1) fun cs => if veqL cs [v] = true then ret () else fail) K n h = _
  rw [bnd_assoc, bnd_of (rdN_of hb hk (by omega))]
  have : (cs.drop o).take 1 = [v] := by
    rw [List.drop_eq_getElem_cons hl]
    simp only [List.take_succ_cons, List.take_zero]
    rw [List.getElem?_eq_getElem hl] at hv
    rw [Option.some.inj hv]
  rw [this]
  simp only [veqL, hv2, Bool.and_self, if_true]
  rfl
theorem veqL_wf : ∀ {l : List Value}, l.all wf64 = true → veqL l l = true
  | [], _ => rfl
  | a :: l, h => by
    simp only [List.all_cons, Bool.and_eq_true] at h
    simp only [veqL, Bool.and_eq_true]
    refine ⟨?_, veqL_wf h.2⟩
    cases a <;> simp only [wf64] at h <;> first | (cases h.1; done) | skip
    simp [veq]
theorem one_wf : ∀ {l : List Value}, l.all wf64 = true → l.all one = true
  | [], _ => rfl
  | a :: l, h => by
    simp only [List.all_cons, Bool.and_eq_true] at h ⊢
    refine ⟨?_, one_wf h.2⟩
    cases a <;> simp only [wf64] at h <;> first | (cases h.1; done) | rfl
theorem q_ckN {b : Nat} {cs : List Value} {kd : Kind} {K : Unit → M α} (hb : h.get b = some ⟨cs, kd⟩) (hk : kd ≠ .dead) (hw : cs.all wf64 = true) : bnd (opChk true (pn b 0) (.agg cs.toArray)) K n h = K () n h := by
  have hc : wcells true (.agg cs.toArray) = cs := by simp [wcells, Value.cells]
  show bnd (bnd (rdN b 0 (wcells true (.agg cs.toArray)).length) fun ds => if veqL ds (wcells true (.agg cs.toArray)) = true then ret () else fail) K n h = _
  rw [hc, bnd_assoc, bnd_of (rdN_of hb hk (by omega))]
  rw [List.drop_zero, List.take_of_length_le (Nat.le_refl _)]
  simp only [veqL_wf hw, if_true]
  rfl
end

theorem find_mem {n : Nat} {key : Value} (hk : ikey n key = true) {E : List (Value × Value × Nat)} {v : Value} {t : Nat} (hE : ∀ p, p ∈ E → ikey n p.1 = true) (hd : E.Pairwise fun p q => p.1 ≠ q.1) (hm : (key, v, t) ∈ E) : entFind key (flatE E) = some (v, .int .i64 t) := by
  induction E with
  | nil => cases hm
  | cons p E ih =>
    obtain ⟨a, b, c⟩ := p
    rw [List.pairwise_cons] at hd
    simp only [flatE, entFind]
    rcases List.mem_cons.1 hm with e | hm
    · cases e
      rw [if_pos ((keq_iff hk hk).2 rfl)]
    · have hne : ¬ keq key a = true := fun q => hd.1 _ hm ((keq_iff hk (hE (a, b, c) (by simp))).1 q).symm
      rw [if_neg hne]
      exact ih (fun p hp => hE p (List.mem_cons_of_mem _ hp)) hd.2 hm

/-- What a round meets. -/
structure Meet (S C : List Value → M Value) (z : Value) (mb gb m cl n : Nat) (e : Ent) (E : List (Value × Value × Nat)) (tot : Nat) (gr : List Value) (gk : Kind) (h : H) : Prop where
  ok : EntOK S C z e
  fresh : h.get n = none
  hx : ∃ mcs mk, h.get mb = some ⟨mcs, mk⟩ ∧ mk ≠ .dead ∧ mcs[3]? = some (pn gb 0)
  hg : h.get gb = some ⟨.map (some m) :: .int .i64 tot :: gr, gk⟩
  gk : gk = .own ∨ gk = .grow
  hm : h.get m = some (mapB 5 cl E)
  keys : ∀ p, p ∈ E → ikey 5 p.1 = true
  dist : E.Pairwise fun p q => p.1 ≠ q.1
  mem : (e.k, e.v, e.t) ∈ E
  hb : h.get e.b = some e.B
  hmb : e.b ≠ mb
  hgb : e.b ≠ gb
  hgm : gb ≠ mb
  small : tot + e.l < 4611686018427387904

theorem set_mem {E : List (Value × Value × Nat)} {k v v' : Value} {t : Nat} (hm : (k, v, t) ∈ E) : ∃ j, E[j]? = some (k, v, t) ∧ ∀ w, (k, w, t) ∈ E.set j (k, w, t) := by
  obtain ⟨j, hj⟩ := List.getElem?_of_mem hm
  refine ⟨j, hj, fun w => ?_⟩
  have hl := (List.getElem?_eq_some_iff.1 hj).1
  exact List.mem_of_getElem? (i := j) (by rw [List.getElem?_set_self hl])

theorem mkT_run {S C : List Value → M Value} {z : Value} {mb gb m cl n : Nat} {e : Ent} {E : List (Value × Value × Nat)} {tot : Nat} {gr : List Value} {gk : Kind} {h : H} (me : Meet S C z mb gb m cl n e E tot gr gk h) (it : Value) :
    ∃ j kc, E[j]? = some (e.k, e.v, e.t) ∧ mkT S C z e.k e.v (pn mb 0) it n h = some (.tuple #[pn mb 0, it], n + 1, (((((h.set n ⟨zeros5, .own⟩).set n ⟨kc, .own⟩).set e.b e.C1).set e.b e.C2).set m (mapB 5 cl (E.set j (e.k, e.v', e.t)))).set gb ⟨.map (some m) :: .int .i64 ((tot + e.l : Nat) : Int) :: gr, gk⟩) := by
  obtain ⟨mcs, mk, hx, hmk, h3⟩ := me.hx
  obtain ⟨j, hj, hset⟩ := set_mem (v' := e.v') me.mem
  have hik := me.keys _ me.mem
  have hagg : ∃ ks : Array Value, e.k = .agg ks ∧ ks.size = 5 ∧ ks.toList.all wf64 = true := by
    have hik : ikey 5 e.k = true := hik
    cases hek : e.k <;> rw [hek] at hik <;> try (cases hik; done)
    rename_i ks
    simp only [ikey, Bool.and_eq_true, decide_eq_true_eq] at hik
    exact ⟨ks, rfl, hik.1, hik.2⟩
  obtain ⟨ks, hek, hks, hwf⟩ := hagg
  obtain ⟨sv, hS⟩ := me.ok.hS
  obtain ⟨len, cap, hv⟩ := me.ok.hv
  obtain ⟨cap', hv'⟩ := me.ok.hv'
  have hC2k := me.ok.kind2
  have hnmb : n ≠ mb := fun q => by have := me.fresh; rw [q, hx] at this; cases this
  have hngb : n ≠ gb := fun q => by have := me.fresh; rw [q, me.hg] at this; cases this
  have hnm : n ≠ m := fun q => by have := me.fresh; rw [q, me.hm] at this; cases this
  have hnb : n ≠ e.b := fun q => by have := me.fresh; rw [q, me.hb] at this; cases this
  have hbm : e.b ≠ m := fun q => by
    have h1 := me.hb
    have h2 := me.ok.kind
    rw [q, me.hm] at h1
    have : e.B = mapB 5 cl E := (Option.some.inj h1).symm
    rw [this] at h2
    exact not_mine_mapB _ _ _ h2
  have hmmb : m ≠ mb := fun q => by
    have h1 := me.hm
    rw [q, hx] at h1
    have : (⟨mcs, mk⟩ : Blk) = mapB 5 cl E := Option.some.inj h1
    unfold mapB at this
    cases this
    exact hmk rfl
  have hmgb : m ≠ gb := fun q => by
    have h1 := me.hm
    rw [q, me.hg] at h1
    have h2 := me.gk
    have : (⟨.map (some m) :: .int .i64 tot :: gr, gk⟩ : Blk) = mapB 5 cl E := Option.some.inj h1
    unfold mapB at this
    cases this
  have hgk : gk ≠ .dead := by rcases me.gk with e | e <;> rw [e] <;> simp
  refine ⟨j, ks.toList, hj, ?_⟩
  unfold mkT
  have s1 : ∀ K : Value → M Value, bnd (opExtract (.tuple #[e.k, e.v]) 0) K n h = K e.k n h := fun K => rfl
  have s2 : ∀ K : Value → M Value, bnd (opExtract (.tuple #[e.k, e.v]) 1) K n h = K e.v n h := fun K => rfl
  rw [s1, s2]
  have s3 : ∀ K : Value → M Value, bnd (opPtr zeros5) K n h = K (pn n 0) (n + 1) (h.set n ⟨zeros5, .own⟩) := fun K => by
    show bnd (bnd (new zeros5 .own) _) K n h = _
    rw [bnd_assoc, bnd_of (new_of me.fresh rfl)]
    rfl
  rw [s3]
  have s4 : ∀ K : Value → M Value, bnd (opStoreN 5 (pn n 0) e.k) K (n + 1) (h.set n ⟨zeros5, .own⟩) = K undef (n + 1) ((h.set n ⟨zeros5, .own⟩).set n ⟨ks.toList, .own⟩) := fun K => by
    rw [hek]
    show bnd (if ks.size = 5 then bnd (wrN n 0 ks.toList) (fun _ => ret undef) else fail) K _ _ = _
    have hlen : ks.toList.length = 5 := by simpa using hks
    rw [if_pos hks, bnd_assoc, bnd_of (wrN_of (cs := zeros5) (kd := .own) (by simp) (.inl rfl) (one_wf hwf) (by rw [hlen]; exact Nat.le_refl _))]
    have : over zeros5 0 ks.toList = ks.toList := by
      unfold over
      rw [List.take_zero, List.nil_append, List.drop_of_length_le (by rw [hlen]; exact Nat.le_refl _), List.append_nil]
    rw [this]
    rfl
  rw [s4]
  generalize hh1 : ((h.set n ⟨zeros5, .own⟩).set n ⟨ks.toList, .own⟩) = h1
  have g1 : ∀ x, x ≠ n → h1.get x = h.get x := fun x hxn => by rw [← hh1, H.get_set_ne _ _ hxn, H.get_set_ne _ _ hxn]
  have g1n : h1.get n = some ⟨ks.toList, .own⟩ := by rw [← hh1, H.get_set_same]
  rw [bnd_of (hS _ _ (by rw [g1 _ (Ne.symm hnb)]; exact me.hb))]
  generalize hh2 : h1.set e.b e.C1 = h2
  have g2 : ∀ x, x ≠ e.b → h2.get x = h1.get x := fun x hxn => by rw [← hh2, H.get_set_ne _ _ hxn]
  have hx2 : h2.get mb = some ⟨mcs, mk⟩ := by rw [g2 _ (Ne.symm me.hmb), g1 _ (Ne.symm hnmb)]; exact hx
  have hg2 : h2.get gb = some ⟨.map (some m) :: .int .i64 tot :: gr, gk⟩ := by rw [g2 _ (Ne.symm me.hgb), g1 _ (Ne.symm hngb)]; exact me.hg
  have hn2 : h2.get n = some ⟨ks.toList, .own⟩ := by rw [g2 _ hnb]; exact g1n
  have hlen : ks.toList.length = 5 := by simpa using hks
  rw [q_nil, q_fa, q_ld hx2 hmk h3, q_nil, q_fa, q_ld hg2 hgk (v := .map (some m)) rfl, q_ldN hn2 (by simp) hlen]
  rw [bnd_of (me.ok.hC _ _ (by rw [← hh2, H.get_set_same]))]
  generalize hh3 : h2.set e.b e.C2 = h3'
  have g3 : ∀ x, x ≠ e.b → h3'.get x = h2.get x := fun x hxn => by rw [← hh3, H.get_set_ne _ _ hxn]
  have hx3 : h3'.get mb = some ⟨mcs, mk⟩ := by rw [g3 _ (Ne.symm me.hmb)]; exact hx2
  have hg3 : h3'.get gb = some ⟨.map (some m) :: .int .i64 tot :: gr, gk⟩ := by rw [g3 _ (Ne.symm me.hgb)]; exact hg2
  have hn3 : h3'.get n = some ⟨ks.toList, .own⟩ := by rw [g3 _ hnb]; exact hn2
  have hm3 : h3'.get m = some (mapB 5 cl E) := by rw [g3 _ (Ne.symm hbm), g2 _ (Ne.symm hbm), g1 _ (Ne.symm hnm)]; exact me.hm
  rw [q_ck hx3 hmk h3 (by simp [veq]), q_ck hg3 hgk (v := .map (some m)) rfl (by simp [veq]), q_ckN hn3 (by simp) hwf]
  have hka : (Value.agg ks.toList.toArray) = e.k := by rw [hek]
  rw [hka]
  have one' : one e.v' = true := by rw [hv']; rfl
  have s5 : ∀ K : Value → M Value, bnd (opInsert 5 (.map (some m)) e.k e.v') K (n + 1) h3' = K undef (n + 1) (h3'.set m (mapB 5 cl (E.set j (e.k, e.v', e.t)))) := fun K => by
    show bnd (bnd (mpGet m) _) K _ _ = _
    rw [bnd_assoc, bnd_of (mpGet_of (cs := .int .u64 (5 : Nat) :: .int .u64 (cl : Nat) :: flatE E) hm3)]
    have hme : mapEnts 5 e.k (.int .u64 ((5 : Nat) : Int) :: .int .u64 ((cl : Nat) : Int) :: flatE E) = some (cl, flatE E) := by
      show (if ((5 : Nat) : Int) = ((5 : Nat) : Int) ∧ ikey 5 e.k = true then some (cl, flatE E) else none) = _
      rw [if_pos ⟨rfl, hik⟩]
    simp only [hme, one', if_true, find_mem hik me.keys me.dist me.mem]
    rw [bnd_assoc, bnd_of (mpSet_of (cs := .int .u64 (5 : Nat) :: .int .u64 (cl : Nat) :: flatE E) hm3), entPut_old (n := 5) (t := cl) hik me.keys me.dist hj]
    rfl
  rw [s5]
  generalize hE' : E.set j (e.k, e.v', e.t) = E'
  generalize hh4 : h3'.set m (mapB 5 cl E') = h4
  have g4 : ∀ x, x ≠ m → h4.get x = h3'.get x := fun x hxn => by rw [← hh4, H.get_set_ne _ _ hxn]
  have hx4 : h4.get mb = some ⟨mcs, mk⟩ := by rw [g4 _ (Ne.symm hmmb)]; exact hx3
  have hg4 : h4.get gb = some ⟨.map (some m) :: .int .i64 tot :: gr, gk⟩ := by rw [g4 _ (Ne.symm hmgb)]; exact hg3
  have hn4 : h4.get n = some ⟨ks.toList, .own⟩ := by rw [g4 _ hnm]; exact hn3
  have hm4 : h4.get m = some (mapB 5 cl E') := by rw [← hh4, H.get_set_same]
  have hkeys : ∀ p, p ∈ E' → ikey 5 p.1 = true := fun p hp => by
    rw [← hE'] at hp
    rcases List.mem_or_eq_of_mem_set hp with hp | rfl
    · exact me.keys p hp
    · exact hik
  have hdist : E'.Pairwise fun p q => p.1 ≠ q.1 := by
    have : E'.map (·.1) = E.map (·.1) := by
      rw [← hE', List.map_set]
      have hl := (List.getElem?_eq_some_iff.1 hj).1
      apply List.ext_getElem?
      intro i
      rw [List.getElem?_set]
      split
      · rename_i hi
        subst hi
        rw [List.getElem?_map, hj]
        simp [hl]
      · rfl
    have h1 : (E.map (·.1)).Pairwise (· ≠ ·) := List.pairwise_map.2 me.dist
    rw [← this] at h1
    exact List.pairwise_map.1 h1
  have hmem : (e.k, e.v', e.t) ∈ E' := by rw [← hE']; exact hset e.v'
  rw [q_nil, q_fa, q_ld hx4 hmk h3, q_nil, q_fa, q_ld hg4 hgk (v := .int .i64 tot) rfl, q_nil, q_fa, q_ld hx4 hmk h3, q_nil, q_fa, q_ld hg4 hgk (v := .map (some m)) rfl, q_ldN hn4 (by simp) hlen, hka]
  have s6 : ∀ K : Value → M Value, bnd (opLookup 5 (.slice none 0 0) false (.map (some m)) e.k) K (n + 1) h4 = K e.v' (n + 1) h4 := fun K => by
    show bnd (bnd (mpGet m) _) K _ _ = _
    rw [bnd_assoc, bnd_of (mpGet_of (cs := .int .u64 (5 : Nat) :: .int .u64 (cl : Nat) :: flatE E') hm4)]
    have hme : mapEnts 5 e.k (.int .u64 ((5 : Nat) : Int) :: .int .u64 ((cl : Nat) : Int) :: flatE E') = some (cl, flatE E') := by
      show (if ((5 : Nat) : Int) = ((5 : Nat) : Int) ∧ ikey 5 e.k = true then some (cl, flatE E') else none) = _
      rw [if_pos ⟨rfl, hik⟩]
    simp only [hme, find_mem hik hkeys hdist hmem]
    rfl
  rw [s6, q_ck hx4 hmk h3 (by simp [veq]), q_ck hg4 hgk (v := .int .i64 tot) rfl (by simp [veq])]
  have s7 : ∀ K : Value → M Value, bnd (opLen e.v') K (n + 1) h4 = K (.int .i64 e.l) (n + 1) h4 := fun K => by rw [hv']; rfl
  rw [s7]
  have s8 : ∀ K : Value → M Value, bnd (opBin .add (.int .i64 tot) (.int .i64 e.l)) K (n + 1) h4 = K (.int .i64 ((tot + e.l : Nat) : Int)) (n + 1) h4 := fun K => by
    have hw : IntKind.i64.wrap ((tot : Int) + (e.l : Int)) = ((tot + e.l : Nat) : Int) := by
      have := me.small
      rw [Go.Fw.wrap64 (by omega)]
      omega
    show bnd (ret (.int .i64 (IntKind.i64.wrap ((tot : Int) + (e.l : Int))))) K _ _ = _
    rw [hw]
    rfl
  rw [s8, q_nil, q_fa]
  show bnd (bnd (wr1 gb 1 _) _) _ _ _ = _
  rw [bnd_assoc, bnd_of (wr1_of hg4 me.gk rfl (by simp))]
  rw [← hh4, ← hh3, ← hh2, ← hh1]
  rfl

end Go.Fw
end
section
set_option linter.unusedVariables false
namespace Go.Fw

def totS (L : List Ent) (seen : List Nat) : Nat := (L.map fun e => if e.t ∈ seen then e.l else 0).sum
theorem totS_nil (L : List Ent) : totS L [] = 0 := by
  induction L with
  | nil => rfl
  | cons e L ih => show (if e.t ∈ ([] : List Nat) then e.l else 0) + totS L [] = 0; rw [ih]; simp
theorem totS_le (L : List Ent) (seen : List Nat) : totS L seen ≤ sumL L := by
  induction L with
  | nil => exact Nat.le_refl _
  | cons e L ih =>
    show (if e.t ∈ seen then e.l else 0) + totS L seen ≤ e.l + sumL L
    split <;> omega
theorem totS_all {L : List Ent} {seen : List Nat} (h : ∀ e, e ∈ L → e.t ∈ seen) : totS L seen = sumL L := by
  induction L with
  | nil => rfl
  | cons e L ih =>
    show (if e.t ∈ seen then e.l else 0) + totS L seen = e.l + sumL L
    rw [if_pos (h e (List.mem_cons_self ..)), ih fun e he => h e (List.mem_cons_of_mem _ he)]
theorem totS_same {L : List Ent} {seen : List Nat} {t : Nat} (h : ∀ e, e ∈ L → e.t ≠ t) : totS L (seen ++ [t]) = totS L seen := by
  induction L with
  | nil => rfl
  | cons e L ih =>
    show (if e.t ∈ seen ++ [t] then e.l else 0) + totS L (seen ++ [t]) = (if e.t ∈ seen then e.l else 0) + totS L seen
    rw [ih fun e he => h e (List.mem_cons_of_mem _ he)]
    have := h e (List.mem_cons_self ..)
    simp [this]
theorem totS_add {L : List Ent} {seen : List Nat} {e : Ent} (hnd : (L.map (·.t)).Nodup) (he : e ∈ L) (hs : e.t ∉ seen) : totS L (seen ++ [e.t]) = totS L seen + e.l := by
  induction L with
  | nil => cases he
  | cons f L ih =>
    rw [List.map_cons, List.nodup_cons] at hnd
    show (if f.t ∈ seen ++ [e.t] then f.l else 0) + totS L (seen ++ [e.t]) = (if f.t ∈ seen then f.l else 0) + totS L seen + e.l
    rcases List.mem_cons.1 he with rfl | he
    · rw [totS_same fun g hg q => hnd.1 (by rw [← q]; exact List.mem_map.2 ⟨g, hg, rfl⟩)]
      rw [if_pos (by simp), if_neg hs]
      omega
    · have hne : f.t ≠ e.t := fun q => hnd.1 (by rw [q]; exact List.mem_map.2 ⟨e, he, rfl⟩)
      rw [ih hnd.2 he]
      have : (f.t ∈ seen ++ [e.t]) ↔ f.t ∈ seen := by simp [hne]
      simp only [this]
      omega

/-- The entries, when some have had their turn. -/
def entS (L : List Ent) (seen : List Nat) : List (Value × Value × Nat) := L.map fun e => (e.k, if e.t ∈ seen then e.v' else e.v, e.t)
theorem borns_entS (L : List Ent) (seen : List Nat) : borns (entS L seen) = L.map (·.t) := by
  unfold borns entS
  rw [List.map_map]
  rfl
theorem entS_keys (L : List Ent) (seen : List Nat) : (entS L seen).map (·.1) = L.map (·.k) := by
  unfold entS
  rw [List.map_map]
  rfl
theorem map_uniq {u : Ent → Nat} {L : List Ent} (hnd : (L.map u).Nodup) {e f : Ent} (he : e ∈ L) (hf : f ∈ L) (h : u e = u f) : e = f := by
  induction L with
  | nil => cases he
  | cons g L ih =>
    rw [List.map_cons, List.nodup_cons] at hnd
    rcases List.mem_cons.1 he with he1 | he1
    · rcases List.mem_cons.1 hf with hf1 | hf1
      · rw [he1, hf1]
      · exact absurd (List.mem_map.2 ⟨f, hf1, by rw [← he1]; exact h.symm⟩) hnd.1
    · rcases List.mem_cons.1 hf with hf1 | hf1
      · exact absurd (List.mem_map.2 ⟨e, he1, by rw [← hf1]; exact h⟩) hnd.1
      · exact ih hnd.2 he1 hf1
theorem ent_uniq {L : List Ent} (hnd : (L.map (·.t)).Nodup) {e f : Ent} (he : e ∈ L) (hf : f ∈ L) (h : e.t = f.t) : e = f := map_uniq hnd he hf h
theorem entS_set {L : List Ent} {seen : List Nat} {e : Ent} (hnd : (L.map (·.t)).Nodup) (he : e ∈ L) (hs : e.t ∉ seen) {j : Nat} (hj : (entS L seen)[j]? = some (e.k, e.v, e.t)) : (entS L seen).set j (e.k, e.v', e.t) = entS L (seen ++ [e.t]) := by
  apply List.ext_getElem?
  intro i
  rw [List.getElem?_set]
  have hl := (List.getElem?_eq_some_iff.1 hj).1
  have hf : ∀ {i : Nat} {s : List Nat}, (entS L s)[i]? = (L[i]?).map fun e => (e.k, if e.t ∈ s then e.v' else e.v, e.t) := fun {i s} => by unfold entS; rw [List.getElem?_map]
  have hje : L[j]? = some e := by
    rw [hf] at hj
    cases hLj : L[j]? with
    | none => rw [hLj] at hj; cases hj
    | some f =>
      rw [hLj] at hj
      simp only [Option.map_some, Option.some.injEq, Prod.mk.injEq] at hj
      rw [ent_uniq hnd (List.mem_of_getElem? hLj) he hj.2.2]
  split
  · rename_i hi
    subst hi
    rw [hf, hje]
    simp
  · rename_i hi
    rw [hf, hf]
    cases hLi : L[i]? with
    | none => rfl
    | some f =>
      simp only [Option.map_some, Option.some.injEq, Prod.mk.injEq, true_and, and_true]
      have hne : f.t ≠ e.t := fun q => by
        have hli := (List.getElem?_eq_some_iff.1 hLi).1
        have h1 : (L.map (·.t))[i]? = (L.map (·.t))[j]? := by
          rw [List.getElem?_map, List.getElem?_map, hLi, hje]
          simp [q]
        exact hi ((List.getElem?_inj (by simpa using hli) hnd).1 h1).symm
      have : (f.t ∈ seen ++ [e.t]) ↔ f.t ∈ seen := by simp [hne]
      simp only [this]

/-- What is given ahead of the loop. -/
structure Set0 (S C : List Value → M Value) (z : Value) (mb gb m cl i : Nat) (L : List Ent) (tot : Nat) (gr : List Value) (gk : Kind) (h : H) : Prop where
  ok : ∀ e, e ∈ L → EntOK S C z e
  hx : ∃ mcs mk, h.get mb = some ⟨mcs, mk⟩ ∧ mk ≠ .dead ∧ mcs[3]? = some (pn gb 0)
  hg : h.get gb = some ⟨.map (some m) :: .int .i64 tot :: gr, gk⟩
  gk : gk = .own ∨ gk = .grow
  hm : h.get m = some (mapB 5 cl (entS L []))
  keys : ∀ e, e ∈ L → ikey 5 e.k = true
  dist : (L.map (·.k)).Pairwise (· ≠ ·)
  borns : (L.map (·.t)).Nodup
  blks : (L.map (·.b)).Nodup
  hb : ∀ e, e ∈ L → h.get e.b = some e.B
  hmb : ∀ e, e ∈ L → e.b ≠ mb
  hgb : ∀ e, e ∈ L → e.b ≠ gb
  hgm : gb ≠ mb
  small : tot + sumL L < 4611686018427387904
  fresh : ∀ x, i ≤ x → x < i + 1 + L.length → h.get x = none

structure Inv (S C : List Value → M Value) (z : Value) (mb gb m cl i : Nat) (L : List Ent) (tot : Nat) (gr : List Value) (gk : Kind) (h0 : H) (seen : List Nat) (s : List Value) (n : Nat) (h : H) : Prop where
  s_eq : s = [pn mb 0, pn i 0]
  n_eq : n = i + 1 + seen.length
  nd : seen.Nodup
  sub : ∀ t, t ∈ seen → t ∈ L.map (·.t)
  hi : h.get i = some (iterB m cl cl seen)
  hm : h.get m = some (mapB 5 cl (entS L seen))
  hg : h.get gb = some ⟨.map (some m) :: .int .i64 ((tot + totS L seen : Nat) : Int) :: gr, gk⟩
  hb : ∀ e, e ∈ L → h.get e.b = some (if e.t ∈ seen then e.C2 else e.B)
  hd : ∀ x, i + 1 ≤ x → x < n → h.get x = some dead
  ho : ∀ x, x ≠ i → x ≠ m → x ≠ gb → (∀ e, e ∈ L → x ≠ e.b) → (i + 1 ≤ x → x < n → False) → h.get x = h0.get x
  gr : Gr h0 h

section
variable {S C : List Value → M Value} {z : Value} {mb gb m cl i : Nat} {L : List Ent} {tot : Nat} {gr : List Value} {gk : Kind} {h0 : H}

theorem nodup_len {l r : List Nat} (hl : l.Nodup) (hs : ∀ t, t ∈ l → t ∈ r) : l.length ≤ r.length := by
  induction l generalizing r with
  | nil => simp
  | cons a l ih =>
    have ha := hs a (List.mem_cons_self ..)
    have hnd := List.nodup_cons.1 hl
    have := ih hnd.2 (r := r.erase a) fun t ht => (List.mem_erase_of_ne (fun q => hnd.1 (by rw [← q]; exact ht))).2 (hs t (List.mem_cons_of_mem _ ht))
    rw [List.length_erase_of_mem ha] at this
    have := List.length_pos_of_mem ha
    simp only [List.length_cons]
    omega

theorem inv_step (X : Set0 S C z mb gb m cl i L tot gr gk h0) {body : Value → Value → List Value → M Value} (hbody : ∀ k v n h r, mkT S C z k v (pn mb 0) (pn i 0) n h = some r → body k v [pn mb 0, pn i 0] n h = some r)
    (seen : List Nat) (s : List Value) (n : Nat) (h : H) (t : Nat) (I : Inv S C z mb gb m cl i L tot gr gk h0 seen s n h) (ht : t ∈ L.map (·.t)) (hs : t ∉ seen) :
    ∃ (E E2 : List (Value × Value × Nat)) (k v : Value) (vs : Array Value) (n1 : Nat) (h1 : H), h.get m = some (mapB 5 cl E) ∧ (k, v, t) ∈ E ∧
      (body k v s).run n (h.set i (iterB m cl cl (seen ++ [t]))) = some (.tuple vs, n1, h1) ∧ (deadR [n] h1).get i = some (iterB m cl cl (seen ++ [t])) ∧ (deadR [n] h1).get m = some (mapB 5 cl E2) ∧ borns E2 = L.map (·.t) ∧
      vs.toList = [pn mb 0, pn i 0] ∧ Inv S C z mb gb m cl i L tot gr gk h0 (seen ++ [t]) vs.toList n1 (deadR [n] h1) := by
  obtain ⟨e, he, rfl⟩ := List.mem_map.1 ht
  have hok := X.ok e he
  -- nobody is where another one is
  have hii : h0.get i = none := X.fresh i (Nat.le_refl _) (by omega)
  have him : i ≠ m := fun q => by rw [q, X.hm] at hii; cases hii
  have hig : i ≠ gb := fun q => by rw [q, X.hg] at hii; cases hii
  obtain ⟨mcs, mk, hx, hmk, h3⟩ := X.hx
  have hix : i ≠ mb := fun q => by rw [q, hx] at hii; cases hii
  have hib : ∀ f, f ∈ L → i ≠ f.b := fun f hf q => by rw [q, X.hb f hf] at hii; cases hii
  have hmg : m ≠ gb := fun q => by
    have h1 := X.hm
    rw [q, X.hg] at h1
    have : (⟨.map (some m) :: .int .i64 tot :: gr, gk⟩ : Blk) = mapB 5 cl (entS L []) := Option.some.inj h1
    unfold mapB at this
    cases this
  have hmx : m ≠ mb := fun q => by
    have h1 := X.hm
    rw [q, hx] at h1
    have : (⟨mcs, mk⟩ : Blk) = mapB 5 cl (entS L []) := Option.some.inj h1
    unfold mapB at this
    cases this
    exact hmk rfl
  have hmb' : ∀ f, f ∈ L → m ≠ f.b := fun f hf q => by
    have h1 := X.hb f hf
    have h2 := (X.ok f hf).kind
    rw [← q, X.hm] at h1
    rw [← Option.some.inj h1] at h2
    exact not_mine_mapB _ _ _ h2
  have hlen : (seen ++ [e.t]).length ≤ L.length := by
    have := nodup_len (l := seen ++ [e.t]) (r := L.map (·.t)) (by
      rw [List.nodup_append]
      exact ⟨I.nd, by simp, fun a ha b hb => by rw [List.mem_singleton.1 hb]; exact fun q => hs (q ▸ ha)⟩) (fun t ht => by
      rcases List.mem_append.1 ht with ht | ht
      · exact I.sub t ht
      · rw [List.mem_singleton.1 ht]; exact List.mem_map.2 ⟨e, he, rfl⟩)
    simpa using this
  have hnI := I.n_eq
  rw [List.length_append, List.length_singleton] at hlen
  have hn0 : h0.get n = none := X.fresh n (by omega) (by omega)
  have hnm : n ≠ m := fun q => by rw [q, X.hm] at hn0; cases hn0
  have hng : n ≠ gb := fun q => by rw [q, X.hg] at hn0; cases hn0
  have hnx : n ≠ mb := fun q => by rw [q, hx] at hn0; cases hn0
  have hnb : ∀ f, f ∈ L → n ≠ f.b := fun f hf q => by rw [q, X.hb f hf] at hn0; cases hn0
  have hni : n ≠ i := by omega
  have hnn : h.get n = none := by
    rw [I.ho n hni hnm hng hnb (by omega)]
    exact hn0
  have hxx : h.get mb = some ⟨mcs, mk⟩ := by
    rw [I.ho mb (Ne.symm hix) (Ne.symm hmx) (Ne.symm X.hgm) (fun f hf => Ne.symm (X.hmb f hf)) (fun h1 h2 => by
      have := I.hd mb h1 h2
      have h4 : h0.get mb = none := X.fresh mb (by omega) (by omega)
      rw [hx] at h4; cases h4)]
    exact hx
  generalize hh : h.set i (iterB m cl cl (seen ++ [e.t])) = hk
  have g0 : ∀ x, x ≠ i → hk.get x = h.get x := fun x hxi => by rw [← hh, H.get_set_ne _ _ hxi]
  have hki : hk.get i = some (iterB m cl cl (seen ++ [e.t])) := by rw [← hh, H.get_set_same]
  have hmem : (e.k, e.v, e.t) ∈ entS L seen := List.mem_map.2 ⟨e, he, by rw [if_neg hs]⟩
  have hkeys : ∀ p, p ∈ entS L seen → ikey 5 p.1 = true := fun p hp => by
    obtain ⟨f, hf, rfl⟩ := List.mem_map.1 hp
    exact X.keys f hf
  have hdist : (entS L seen).Pairwise fun p q => p.1 ≠ q.1 := by
    have := X.dist
    rw [← entS_keys L seen] at this
    exact List.pairwise_map.1 this
  have me : Meet S C z mb gb m cl n e (entS L seen) (tot + totS L seen) gr gk hk := ⟨hok, by rw [g0 _ hni]; exact hnn, ⟨mcs, mk, by rw [g0 _ (Ne.symm hix)]; exact hxx, hmk, h3⟩, by rw [g0 _ (Ne.symm hig)]; exact I.hg, X.gk,
    by rw [g0 _ (Ne.symm him)]; exact I.hm, hkeys, hdist, hmem, by rw [g0 _ (Ne.symm (hib e he)), I.hb e he, if_neg hs], X.hmb e he, X.hgb e he, X.hgm, by
      have h1 := totS_le L (seen ++ [e.t])
      rw [totS_add X.borns he hs] at h1
      have := X.small
      omega⟩
  obtain ⟨j, kc, hj, hrun⟩ := mkT_run me (pn i 0)
  rw [entS_set X.borns he hs hj] at hrun
  generalize hh1 : (((((hk.set n ⟨zeros5, .own⟩).set n ⟨kc, .own⟩).set e.b e.C1).set e.b e.C2).set m (mapB 5 cl (entS L (seen ++ [e.t])))).set gb ⟨.map (some m) :: .int .i64 ((tot + totS L seen + e.l : Nat) : Int) :: gr, gk⟩ = h1 at hrun
  have g1 : ∀ x, h1.get x = if x = gb then some ⟨.map (some m) :: .int .i64 ((tot + totS L seen + e.l : Nat) : Int) :: gr, gk⟩ else if x = m then some (mapB 5 cl (entS L (seen ++ [e.t]))) else if x = e.b then some e.C2 else if x = n then some ⟨kc, .own⟩ else hk.get x := fun x => by
    rw [← hh1]
    simp only [H.get_set]
    split
    · rfl
    · split
      · rfl
      · split
        · rfl
        · split <;> rfl
  have gn : h1.get n = some ⟨kc, .own⟩ := by rw [g1, if_neg hng, if_neg hnm, if_neg (hnb e he), if_pos rfl]
  have hD : deadR [n] h1 = h1.set n dead := by
    show (if (h1.get n).isSome = true then h1.set n dead else h1) = _
    rw [gn]; rfl
  have g2 : ∀ x, x ≠ n → (h1.set n dead).get x = h1.get x := fun x hxn => H.get_set_ne _ _ hxn
  have hi2 : (h1.set n dead).get i = some (iterB m cl cl (seen ++ [e.t])) := by
    rw [g2 _ (Ne.symm hni), g1, if_neg hig, if_neg him, if_neg (hib e he), if_neg (Ne.symm hni)]; exact hki
  have hm2 : (h1.set n dead).get m = some (mapB 5 cl (entS L (seen ++ [e.t]))) := by
    rw [g2 _ (Ne.symm hnm), g1, if_neg hmg, if_pos rfl]
  refine ⟨entS L seen, entS L (seen ++ [e.t]), e.k, e.v, #[pn mb 0, pn i 0], n + 1, h1, I.hm, hmem, ?_, by rw [hD]; exact hi2, by rw [hD]; exact hm2, borns_entS _ _, rfl, ?_⟩
  · rw [I.s_eq]
    exact hbody _ _ _ _ _ hrun
  · rw [hD]
    refine ⟨rfl, by rw [List.length_append, List.length_singleton]; omega, ?_, ?_, hi2, hm2, ?_, ?_, ?_, ?_, ?_⟩
    · rw [List.nodup_append]
      exact ⟨I.nd, by simp, fun a ha b hb => by rw [List.mem_singleton.1 hb]; exact fun q => hs (q ▸ ha)⟩
    · intro t ht
      rcases List.mem_append.1 ht with ht | ht
      · exact I.sub t ht
      · rw [List.mem_singleton.1 ht]; exact List.mem_map.2 ⟨e, he, rfl⟩
    · rw [g2 _ (Ne.symm hng), g1, if_pos rfl, totS_add X.borns he hs, Nat.add_assoc]
    · intro f hf
      rw [g2 _ (Ne.symm (hnb f hf)), g1, if_neg (X.hgb f hf), if_neg (Ne.symm (hmb' f hf))]
      by_cases hfe : f.b = e.b
      · have : f = e := by exact map_uniq X.blks hf he hfe
        subst this
        rw [if_pos rfl, if_pos (by simp)]
      · have hft : f.t ≠ e.t := fun q => hfe (by rw [ent_uniq X.borns hf he q])
        rw [if_neg hfe, if_neg (Ne.symm (hnb f hf)), g0 _ (Ne.symm (hib f hf)), I.hb f hf]
        have : (f.t ∈ seen ++ [e.t]) ↔ f.t ∈ seen := by simp [hft]
        simp only [this]
    · intro x h1' h2'
      by_cases hxn : x = n
      · rw [hxn, H.get_set_same]
      · have hxl : x < n := by omega
        have hx0 : h0.get x = none := X.fresh x (by omega) (by omega)
        have a1 : x ≠ gb := fun q => by rw [q, X.hg] at hx0; cases hx0
        have a2 : x ≠ m := fun q => by rw [q, X.hm] at hx0; cases hx0
        have a3 : x ≠ e.b := fun q => by rw [q, X.hb e he] at hx0; cases hx0
        rw [g2 _ hxn, g1, if_neg a1, if_neg a2, if_neg a3, if_neg hxn, g0 _ (by omega)]
        exact I.hd x h1' hxl
    · intro x b1 b2 b3 b4 b5
      have hxn : x ≠ n := fun q => b5 (by omega) (by omega)
      rw [g2 _ hxn, g1, if_neg b3, if_neg b2, if_neg (b4 e he), if_neg hxn, g0 _ b1]
      exact I.ho x b1 b2 b3 b4 fun c1 c2 => b5 c1 (by omega)
    · rw [← hh1, ← hh]
      exact ((((((I.gr.set _ _).set _ _).set _ _).set _ _).set _ _).set _ _).set _ _ |>.set _ _
end
end Go.Fw
end
section
set_option linter.unusedVariables false
namespace Go.Fw
open Go.Fk (rd_of rdN_of wr1_of wrN_of new_of mpGet_of mpSet_of kill_of room_of)

def zeros2 : List Value := [.int .i64 0, .int .i64 0]
def kcells : Value → List Value
  | .agg cs => cs.toList
  | _ => []
def flatK (ks : List Value) : List Value := (ks.map kcells).flatten
/-- The list of keys so far. -/
def colV (c : Nat) (ks : List Value) : Value :=
  match ks with
  | [] => .slice none 0 0
  | _ => .slice (some ⟨c, 0, none⟩) ks.length (U + 2)
theorem colV_ne {c : Nat} {ks : List Value} (h : ks ≠ []) : colV c ks = .slice (some ⟨c, 0, none⟩) ks.length (U + 2) := by
  cases ks with
  | nil => exact absurd rfl h
  | cons _ _ => rfl

def colT (k v l it : Value) : M Value :=
  bnd (opExtract (.tuple #[k, v]) 0) fun e => bnd (opPtr zeros2) fun p => bnd (opStoreN 2 p e) fun _ => bnd (opLoadN 2 p) fun q => bnd (opBuildSlice 1 (rep 1 zeros2) [(0, 2, true, q)]) fun s => bnd (opApp 2 16 l s) fun l' => ret (.tuple #[l', it])

theorem key2 {k : Value} (hk : ikey 2 k = true) : ∃ x y, k = .agg #[x, y] ∧ kcells k = [x, y] ∧ wf64 x = true ∧ wf64 y = true := by
  cases k <;> try (cases hk; done)
  rename_i cs
  simp only [ikey, Bool.and_eq_true, decide_eq_true_eq] at hk
  obtain ⟨hs, hw⟩ := hk
  obtain ⟨l⟩ := cs
  match l, hs, hw with
  | [x, y], _, hw =>
    simp only [List.all_cons, List.all_nil, Bool.and_true, Bool.and_eq_true] at hw
    exact ⟨x, y, rfl, rfl, hw.1, hw.2⟩
theorem kcells_len {k : Value} (hk : ikey 2 k = true) : (kcells k).length = 2 := by
  obtain ⟨x, y, rfl, h, _⟩ := key2 hk
  rw [h]; rfl
theorem kcells_wf {k : Value} (hk : ikey 2 k = true) : (kcells k).all wf64 = true := by
  obtain ⟨x, y, rfl, h, h1, h2⟩ := key2 hk
  rw [h]; simp [h1, h2]
theorem flatK_len : ∀ {ks : List Value}, (∀ x, x ∈ ks → ikey 2 x = true) → (flatK ks).length = 2 * ks.length
  | [], _ => rfl
  | k :: ks, h => by
    show (kcells k ++ flatK ks).length = _
    rw [List.length_append, kcells_len (h k (List.mem_cons_self ..)), flatK_len fun x hx => h x (List.mem_cons_of_mem _ hx), List.length_cons]
    omega
theorem flatK_wf : ∀ {ks : List Value}, (∀ x, x ∈ ks → ikey 2 x = true) → (flatK ks).all wf64 = true
  | [], _ => rfl
  | k :: ks, h => by
    show (kcells k ++ flatK ks).all wf64 = true
    rw [List.all_append, kcells_wf (h k (List.mem_cons_self ..)), flatK_wf fun x hx => h x (List.mem_cons_of_mem _ hx)]
    rfl
theorem flatK_snoc (ks : List Value) (k : Value) : flatK (ks ++ [k]) = flatK ks ++ kcells k := by
  unfold flatK; simp

theorem colT_run {q : Nat} {h : H} {k v it : Value} {ks : List Value} {c : Nat} (hk : ikey 2 k = true) (hks : ∀ x, x ∈ ks → ikey 2 x = true) (hc : ks ≠ [] → h.get c = some ⟨flatK ks, .grow⟩)
    (h0 : h.get q = none) (h1 : h.get (q + 1) = none) (h2 : h.get (q + 2) = none) (hlen : ks.length < 1000000) :
    ∃ h', colT k v (colV c ks) it q h = some (Value.tuple #[colV (q + 2) (ks ++ [k]), it], q + 3, h') ∧ h'.get (q + 2) = some ⟨flatK (ks ++ [k]), .grow⟩ ∧ (h'.get q).isSome = true ∧ (h'.get (q + 1)).isSome = true ∧ (ks ≠ [] → h'.get c = some dead) ∧
      (∀ x, x ≠ q → x ≠ q + 1 → x ≠ q + 2 → (ks ≠ [] → x ≠ c) → h'.get x = h.get x) ∧ ∀ s, Gr s h → Gr s h' := by
  obtain ⟨x, y, rfl, hkc, hx, hy⟩ := key2 hk
  have hwf : [x, y].all wf64 = true := by simp [hx, hy]
  have hone : [x, y].all one = true := one_wf hwf
  have s1 : ∀ K : Value → M Value, bnd (opExtract (Value.tuple #[.agg #[x, y], v]) 0) K q h = K (.agg #[x, y]) q h := fun K => rfl
  have s2 : ∀ K : Value → M Value, bnd (opPtr zeros2) K q h = K (pn q 0) (q + 1) (h.set q ⟨zeros2, .own⟩) := fun K => by
    show bnd (bnd (new zeros2 .own) _) K q h = _
    rw [bnd_assoc, bnd_of (new_of h0 rfl)]
    rfl
  have s3 : ∀ K : Value → M Value, bnd (opStoreN 2 (pn q 0) (.agg #[x, y])) K (q + 1) (h.set q ⟨zeros2, .own⟩) = K undef (q + 1) ((h.set q ⟨zeros2, .own⟩).set q ⟨[x, y], .own⟩) := fun K => by
    show bnd (bnd (wrN q 0 [x, y]) (fun _ => ret undef)) K _ _ = _
    rw [bnd_assoc, bnd_of (wrN_of (cs := zeros2) (kd := .own) (by simp) (.inl rfl) hone (Nat.le_refl 2))]
    rfl
  generalize hh1 : (h.set q ⟨zeros2, .own⟩).set q ⟨[x, y], .own⟩ = k1 at s3
  have g1 : ∀ z, z ≠ q → k1.get z = h.get z := fun z hz => by rw [← hh1, H.get_set_ne _ _ hz, H.get_set_ne _ _ hz]
  have g1q : k1.get q = some ⟨[x, y], .own⟩ := by rw [← hh1, H.get_set_same]
  have s4 : ∀ K : Value → M Value, bnd (opLoadN 2 (pn q 0)) K (q + 1) k1 = K (.agg #[x, y]) (q + 1) k1 := fun K => q_ldN g1q (by simp) rfl
  have s5 : ∀ K : Value → M Value, bnd (opBuildSlice 1 (rep 1 zeros2) [(0, 2, true, .agg #[x, y])]) K (q + 1) k1 = K (Value.slice (some ⟨q + 1, 0, none⟩) 1 1) (q + 2) (k1.set (q + 1) ⟨[x, y], .own⟩) := fun K => by
    show bnd (bnd (new [x, y] .own) fun b => ret (Value.slice (some ⟨b, 0, none⟩) 1 1)) K (q + 1) k1 = _
    rw [bnd_assoc, bnd_of (new_of (by rw [g1 _ (by omega)]; exact h1) hone)]
    rfl
  generalize hh2 : k1.set (q + 1) ⟨[x, y], .own⟩ = k2 at s5
  have g2 : ∀ z, z ≠ q + 1 → k2.get z = k1.get z := fun z hz => by rw [← hh2, H.get_set_ne _ _ hz]
  have g2q : k2.get (q + 1) = some ⟨[x, y], .own⟩ := by rw [← hh2, H.get_set_same]
  have hrun0 : ∀ r, bnd (opApp 2 16 (colV c ks) (Value.slice (some ⟨q + 1, 0, none⟩) 1 1)) (fun l' => ret (Value.tuple #[l', it])) (q + 2) k2 = r → colT (.agg #[x, y]) v (colV c ks) it q h = r := by
    intro r hr
    unfold colT
    rw [s1, s2, s3, s4, s5]
    exact hr
  have hq2 : k2.get (q + 2) = none := by rw [g2 _ (by omega), g1 _ (by omega)]; exact h2
  have news : ∀ K : List Value → M Value, bnd (cellsOf 2 (Value.slice (some ⟨q + 1, 0, none⟩) 1 1)) K (q + 2) k2 = K [x, y] (q + 2) k2 := fun K => by
    show bnd (rdN (q + 1) 0 2) K (q + 2) k2 = _
    rw [bnd_of (rdN_of g2q (by simp) (Nat.le_refl 2))]
    rfl
  have hgr : ∀ s, Gr s h → Gr s k2 := fun s hs => by rw [← hh2, ← hh1]; exact ((hs.set _ _).set _ _).set _ _
  by_cases hn : ks = []
  · subst hn
    refine ⟨k2.set (q + 2) ⟨[x, y], .grow⟩, hrun0 _ ?_, ?_, ?_, ?_, fun q => absurd rfl q, fun z z1 z2 z3 _ => ?_, fun s hs => (hgr s hs).set _ _⟩
    · show bnd (bnd (ret false) fun b => if b = true then opAppIn 2 16 (Value.slice none 0 0) (Value.slice (some ⟨q + 1, 0, none⟩) 1 1) else opAppend 2 16 (Value.slice none 0 0) (Value.slice (some ⟨q + 1, 0, none⟩) 1 1)) _ (q + 2) k2 = _
      show bnd (bnd (cellsOf 2 (Value.slice (some ⟨q + 1, 0, none⟩) 1 1)) fun news => bnd (ret []) fun olds => bnd (new (olds ++ news) .grow) fun c => ret (Value.slice (some ⟨c, 0, none⟩) 1 (U + 2))) (fun l' => ret (Value.tuple #[l', it])) (q + 2) k2 = _
      rw [bnd_assoc, news]
      show bnd (bnd (new [x, y] .grow) fun c => ret (Value.slice (some ⟨c, 0, none⟩) 1 (U + 2))) (fun l' => ret (Value.tuple #[l', it])) (q + 2) k2 = _
      rw [bnd_assoc, bnd_of (new_of hq2 hone)]
      rfl
    · rw [H.get_set_same]; show _ = some (Blk.mk (kcells (.agg #[x, y]) ++ []) .grow); rw [hkc]; rfl
    · rw [H.get_set_ne _ _ (by omega), g2 _ (by omega), g1q]; rfl
    · rw [H.get_set_ne _ _ (by omega), g2q]; rfl
    · rw [H.get_set_ne _ _ z3, g2 _ z2, g1 _ z1]
  · have hc := hc hn
    have hcq : c ≠ q := fun e => by rw [e, h0] at hc; cases hc
    have hcq1 : c ≠ q + 1 := fun e => by rw [e, h1] at hc; cases hc
    have hcq2 : c ≠ q + 2 := fun e => by rw [e, h2] at hc; cases hc
    have hc2 : k2.get c = some ⟨flatK ks, .grow⟩ := by rw [g2 _ hcq1, g1 _ hcq]; exact hc
    have hl := flatK_len hks
    have hw := flatK_wf hks
    have hpos : 0 < ks.length := List.length_pos_iff.2 hn
    refine ⟨(k2.set c dead).set (q + 2) ⟨flatK ks ++ [x, y], .grow⟩, hrun0 _ ?_, ?_, ?_, ?_, fun _ => ?_, fun z z1 z2 z3 z4 => ?_, fun s hs => ((hgr s hs).set _ _).set _ _⟩
    · rw [colV_ne hn]
      have hroom : room c (0 + (ks.length + 1) * 2) (q + 2) k2 = some (false, q + 2, k2) := by
        rw [room_of hc2]
        congr 2
        exact decide_eq_false (by rw [hl]; omega)
      show bnd (bnd (if U + 2 = U + 2 ∧ 1 ≠ 0 then room c (0 + (ks.length + 1) * 2) else ret false) fun b => if b = true then opAppIn 2 16 (Value.slice (some ⟨c, 0, none⟩) ks.length (U + 2)) (Value.slice (some ⟨q + 1, 0, none⟩) 1 1) else opAppend 2 16 (Value.slice (some ⟨c, 0, none⟩) ks.length (U + 2)) (Value.slice (some ⟨q + 1, 0, none⟩) 1 1)) (fun l' => ret (Value.tuple #[l', it])) (q + 2) k2 = _
      rw [if_pos ⟨rfl, by omega⟩, bnd_assoc, bnd_of hroom]
      show bnd (opAppend 2 16 (Value.slice (some ⟨c, 0, none⟩) ks.length (U + 2)) (Value.slice (some ⟨q + 1, 0, none⟩) 1 1)) (fun l' => ret (Value.tuple #[l', it])) (q + 2) k2 = _
      have happ : opAppend 2 16 (Value.slice (some ⟨c, 0, none⟩) ks.length (U + 2)) (Value.slice (some ⟨q + 1, 0, none⟩) 1 1) = bnd (cellsOf 2 (Value.slice (some ⟨q + 1, 0, none⟩) 1 1)) fun news => bnd (cellsOf 2 (Value.slice (some ⟨c, 0, none⟩) ks.length (U + 2))) fun olds => bnd (kill c) fun _ => bnd (new (olds ++ news) .grow) fun c => ret (Value.slice (some ⟨c, 0, none⟩) (ks.length + 1) (U + 2)) := by
        unfold opAppend
        dsimp only
        rw [if_neg (by omega), if_pos ⟨by omega, by omega⟩]
        simp only [eq_self_iff_true, if_true]
      rw [happ, bnd_assoc, news]
      have olds : ∀ K : List Value → M Value, bnd (cellsOf 2 (Value.slice (some ⟨c, 0, none⟩) ks.length (U + 2))) K (q + 2) k2 = K (flatK ks) (q + 2) k2 := fun K => by
        show bnd (if ks.length = 0 then ret [] else rdN c 0 (ks.length * 2)) K (q + 2) k2 = _
        rw [if_neg (by omega), bnd_of (rdN_of hc2 (by simp) (by rw [hl]; omega)), List.drop_zero, List.take_of_length_le (by rw [hl]; omega)]
      rw [bnd_assoc, olds, bnd_assoc, bnd_of (kill_of hc2), bnd_assoc, bnd_of (new_of (by rw [H.get_set_ne _ _ (Ne.symm hcq2)]; exact hq2) (by rw [List.all_append, one_wf hw, hone]; rfl))]
      rw [colV_ne (by simp)]
      rw [List.length_append]
      rfl
    · rw [H.get_set_same, flatK_snoc, hkc]
    · rw [H.get_set_ne _ _ (by omega), H.get_set_ne _ _ (Ne.symm hcq), g2 _ (by omega), g1q]; rfl
    · rw [H.get_set_ne _ _ (by omega), H.get_set_ne _ _ (Ne.symm hcq1), g2q]; rfl
    · rw [H.get_set_ne _ _ hcq2, H.get_set_same]
    · rw [H.get_set_ne _ _ z3, H.get_set_ne _ _ (z4 hn), g2 _ z2, g1 _ z1]

/-- The key that was born at t. -/
def keyAt (E : List (Value × Value × Nat)) (t : Nat) : Value :=
  match E.find? fun p : Value × Value × Nat => decide (p.2.2 = t) with
  | some p => p.1
  | none => undef
theorem keyAt_mem {E : List (Value × Value × Nat)} (hnd : (borns E).Nodup) {k v : Value} {t : Nat} (hm : (k, v, t) ∈ E) : keyAt E t = k := by
  unfold keyAt
  have hex : ∃ p, E.find? (fun p : Value × Value × Nat => decide (p.2.2 = t)) = some p := by
    cases hf : E.find? fun p : Value × Value × Nat => decide (p.2.2 = t) with
    | some p => exact ⟨p, rfl⟩
    | none =>
      have := List.find?_eq_none.1 hf _ hm
      simp at this
  obtain ⟨⟨k', v', t'⟩, hp⟩ := hex
  rw [hp]
  have h1 := List.find?_some hp
  have h2 := List.mem_of_find?_eq_some hp
  have h1 : t' = t := by simpa using h1
  subst h1
  exact (born_uniq hnd h2 hm).1
theorem keyAt_all {E : List (Value × Value × Nat)} (hnd : (borns E).Nodup) : (borns E).map (keyAt E) = E.map (·.1) := by
  unfold borns
  rw [List.map_map]
  exact List.map_congr_left fun p hp => keyAt_mem hnd (k := p.1) (v := p.2.1) hp

structure CInv (m cl i : Nat) (E : List (Value × Value × Nat)) (h0 : H) (seen : List Nat) (s : List Value) (n : Nat) (h : H) : Prop where
  s_eq : s = [colV (n - 1) (seen.map (keyAt E)), pn i 0]
  n_eq : n = i + 1 + 3 * seen.length
  nd : seen.Nodup
  sub : ∀ t, t ∈ seen → t ∈ borns E
  hi : h.get i = some (iterB m cl cl seen)
  hm : h.get m = some (mapB 2 cl E)
  hl : seen ≠ [] → h.get (n - 1) = some ⟨flatK (seen.map (keyAt E)), .grow⟩
  hd : ∀ x, i + 1 ≤ x → x + 1 < n → h.get x = some dead
  ho : ∀ x, x ≠ i → (i + 1 ≤ x → x < n → False) → h.get x = h0.get x
  gr : Gr h0 h

/-- What is given ahead of the walk. -/
structure CSet (m cl i : Nat) (E : List (Value × Value × Nat)) (h0 : H) : Prop where
  hm : h0.get m = some (mapB 2 cl E)
  keys : ∀ p, p ∈ E → ikey 2 p.1 = true
  nd : (borns E).Nodup
  len : E.length < 1000000
  fresh : ∀ x, i ≤ x → x < i + 1 + 3 * E.length → h0.get x = none

theorem cInv_step {m cl i : Nat} {E : List (Value × Value × Nat)} {h0 : H} (X : CSet m cl i E h0) {body : Value → Value → List Value → M Value} (hbody : ∀ k v l n h r, colT k v l (pn i 0) n h = some r → body k v [l, pn i 0] n h = some r)
    (seen : List Nat) (s : List Value) (n : Nat) (h : H) (t : Nat) (I : CInv m cl i E h0 seen s n h) (ht : t ∈ borns E) (hs : t ∉ seen) :
    ∃ (E1 E2 : List (Value × Value × Nat)) (k v : Value) (vs : Array Value) (n1 : Nat) (h1 : H), h.get m = some (mapB 2 cl E1) ∧ (k, v, t) ∈ E1 ∧
      (body k v s).run n (h.set i (iterB m cl cl (seen ++ [t]))) = some (.tuple vs, n1, h1) ∧ (deadR [n, n + 1] h1).get i = some (iterB m cl cl (seen ++ [t])) ∧ (deadR [n, n + 1] h1).get m = some (mapB 2 cl E2) ∧ borns E2 = borns E ∧
      (∃ l, vs.toList = [l, pn i 0]) ∧ CInv m cl i E h0 (seen ++ [t]) vs.toList n1 (deadR [n, n + 1] h1) := by
  obtain ⟨⟨k, v, t'⟩, hmem, rfl⟩ := List.mem_map.1 ht
  have hs : t' ∉ seen := hs
  have hk := X.keys _ hmem
  have hlen : (seen ++ [t']).length ≤ E.length := by
    have := nodup_len (l := seen ++ [t']) (r := borns E) (by
      rw [List.nodup_append]
      exact ⟨I.nd, by simp, fun a ha b hb => by rw [List.mem_singleton.1 hb]; intro q; have q : a = t' := q; rw [q] at ha; exact hs ha⟩) (fun t ht => by
      rcases List.mem_append.1 ht with ht | ht
      · exact I.sub t ht
      · rw [List.mem_singleton.1 ht]; exact List.mem_map.2 ⟨_, hmem, rfl⟩)
    unfold borns at this
    rw [List.length_map] at this
    exact this
  rw [List.length_append, List.length_singleton] at hlen
  have hn := I.n_eq
  have hii : h0.get i = none := X.fresh i (Nat.le_refl _) (by omega)
  have him : i ≠ m := fun q => by rw [q, X.hm] at hii; cases hii
  have fr : ∀ x, n ≤ x → x < n + 3 → h.get x = none := fun x h1 h2 => by
    rw [I.ho x (by omega) (fun _ _ => by omega)]
    exact X.fresh x (by omega) (by omega)
  have frm : ∀ x, i ≤ x → x < i + 1 + 3 * E.length → x ≠ m := fun x h1 h2 q => by
    have := X.fresh x h1 h2
    rw [q, X.hm] at this; cases this
  generalize hh : h.set i (iterB m cl cl (seen ++ [t'])) = g
  have g0 : ∀ x, x ≠ i → g.get x = h.get x := fun x hx => by rw [← hh, H.get_set_ne _ _ hx]
  have gi : g.get i = some (iterB m cl cl (seen ++ [t'])) := by rw [← hh, H.get_set_same]
  have hks : ∀ x, x ∈ seen.map (keyAt E) → ikey 2 x = true := fun x hx => by
    obtain ⟨t2, ht2, rfl⟩ := List.mem_map.1 hx
    obtain ⟨⟨k2, v2, t3⟩, hm2, rfl⟩ := List.mem_map.1 (I.sub t2 ht2)
    rw [keyAt_mem X.nd hm2]
    exact X.keys _ hm2
  have hne : seen.map (keyAt E) ≠ [] → seen ≠ [] := fun q e => q (by rw [e]; rfl)
  have hpos : seen ≠ [] → 0 < seen.length := fun q => List.length_pos_iff.2 q
  obtain ⟨h1, r1, r2, r3, r4, r5, r6, r7⟩ := colT_run (q := n) (h := g) (v := v) (it := pn i 0) (c := n - 1) hk hks (fun q => by
      have := hpos (hne q)
      rw [g0 _ (by omega)]; exact I.hl (hne q))
    (by rw [g0 _ (by omega)]; exact fr n (by omega) (by omega)) (by rw [g0 _ (by omega)]; exact fr (n + 1) (by omega) (by omega)) (by rw [g0 _ (by omega)]; exact fr (n + 2) (by omega) (by omega)) (by rw [List.length_map]; have := X.len; omega)
  have hD : ∀ x, (deadR [n, n + 1] h1).get x = if x = n ∨ x = n + 1 then some dead else h1.get x := fun x => by
    rw [deadR_get]
    by_cases hx : x = n ∨ x = n + 1
    · rw [if_pos hx, if_pos]
      rcases hx with rfl | rfl
      · exact ⟨by simp, r3⟩
      · exact ⟨by simp, r4⟩
    · rw [if_neg hx, if_neg]
      rintro ⟨hm, _⟩
      simp at hm
      exact hx hm
  have hi2 : h1.get i = some (iterB m cl cl (seen ++ [t'])) := by
    rw [r6 i (by omega) (by omega) (by omega) (fun q => by have := hpos (hne q); omega)]; exact gi
  have hm2 : h1.get m = some (mapB 2 cl E) := by
    have a1 := frm n (by omega) (by omega)
    have a2 := frm (n + 1) (by omega) (by omega)
    have a3 := frm (n + 2) (by omega) (by omega)
    rw [r6 m (Ne.symm a1) (Ne.symm a2) (Ne.symm a3) (fun q => by have := hpos (hne q); exact Ne.symm (frm (n - 1) (by omega) (by omega))), g0 _ (Ne.symm him)]
    exact I.hm
  have hkt : (seen ++ [t']).map (keyAt E) = seen.map (keyAt E) ++ [k] := by rw [List.map_append, List.map_singleton, keyAt_mem X.nd hmem]
  refine ⟨E, E, k, v, #[colV (n + 2) (seen.map (keyAt E) ++ [k]), pn i 0], n + 3, h1, I.hm, hmem, ?_, ?_, ?_, rfl, ⟨_, rfl⟩, ?_⟩
  · rw [I.s_eq]
    exact hbody _ _ _ _ _ _ r1
  · rw [hD, if_neg (by omega)]; exact hi2
  · rw [hD, if_neg (by
      rintro (q | q)
      · exact frm n (by omega) (by omega) q.symm
      · exact frm (n + 1) (by omega) (by omega) q.symm)]
    exact hm2
  · refine ⟨?_, by rw [List.length_append, List.length_singleton]; omega, ?_, ?_, ?_, ?_, fun _ => ?_, fun x b1 b2 => ?_, fun x b1 b2 => ?_, ?_⟩
    · rw [hkt]
      rfl
    · rw [List.nodup_append]
      exact ⟨I.nd, by simp, fun a ha b hb => by rw [List.mem_singleton.1 hb]; intro q; have q : a = t' := q; rw [q] at ha; exact hs ha⟩
    · intro t ht
      rcases List.mem_append.1 ht with ht | ht
      · exact I.sub t ht
      · rw [List.mem_singleton.1 ht]; exact List.mem_map.2 ⟨_, hmem, rfl⟩
    · rw [hD, if_neg (by omega)]; exact hi2
    · rw [hD, if_neg (by
        rintro (q | q)
        · exact frm n (by omega) (by omega) q.symm
        · exact frm (n + 1) (by omega) (by omega) q.symm)]
      exact hm2
    · rw [hD, if_neg (by omega), hkt]
      show h1.get (n + 2) = _
      exact r2
    · rw [hD]
      by_cases hx : x = n ∨ x = n + 1
      · rw [if_pos hx]
      · rw [if_neg hx]
        by_cases hx1 : x = n - 1
        · have hse : seen ≠ [] := fun q => by subst q; simp at hn; omega
          rw [hx1]
          exact r5 fun q => hse (List.map_eq_nil_iff.1 q)
        · rw [r6 x (by omega) (by omega) (by omega) (fun _ => hx1), g0 _ (by omega)]
          exact I.hd x b1 (by omega)
    · rw [hD, if_neg (fun q => b2 (by omega) (by omega)), r6 x (fun q => b2 (by omega) (by omega)) (fun q => b2 (by omega) (by omega)) (fun q => b2 (by omega) (by omega)) (fun q e => by have := hpos (hne q); exact b2 (by omega) (by omega)), g0 _ b1]
      exact I.ho x b1 fun c1 c2 => b2 c1 (by omega)
    · have hg : Gr h0 h1 := r7 _ (by rw [← hh]; exact I.gr.set _ _)
      show Gr h0 (List.foldl _ h1 [n, n + 1])
      simp only [List.foldl_cons, List.foldl_nil]
      have hstep : ∀ (g : H) (b : Nat), Gr h0 g → Gr h0 (if (g.get b).isSome = true then g.set b dead else g) := fun g b hg => by
        split
        · exact hg.set _ _
        · exact hg
      exact hstep _ _ (hstep _ _ hg)
end Go.Fw
end
section
set_option linter.unusedVariables false
namespace Go.Fw

def mkM (S C : List Value → M Value) (z x : Value) : M Unit :=
  match x with
  | .pointer (some ⟨mb, 0, none⟩) => bnd (rd mb 3) fun gp => match gp with
    | .pointer (some ⟨gb, 0, none⟩) => bnd (rd gb 0) fun mv => bnd (rd gb 1) fun nv => match mv, nv with
      | .map (some m), .int .i64 (.ofNat tot) => bnd (mpGet m) fun cs => match cs with
        | .int .u64 (.ofNat sz) :: .int .u64 (.ofNat cl) :: es => match decE es with
          | some E => if sz = 5 ∧ E.all (fun p => decide (p.2.2 < cl)) = true ∧ (borns E).Nodup ∧ (E.map fun p => blkOf p.2.1).Nodup ∧ tot < 4611686018427387904 ∧ gb ≠ mb then
              bnd (new [] .dead) fun _ => bnd (goM S C z E tot) fun q => bnd (mpSet m (.int .u64 (5 : Nat) :: .int .u64 (cl : Nat) :: flatE q.1)) fun _ => wr1 gb 1 (.int .i64 (q.2 : Nat))
            else fail
          | none => fail
        | _ => fail
      | _, _ => fail
    | _ => fail
  | _ => fail

theorem rd_live {b o n n' : Nat} {h h' : H} {v : Value} (e : rd b o n h = some (v, n', h')) : n' = n ∧ h' = h ∧ ∃ cs kd, h.get b = some ⟨cs, kd⟩ ∧ kd ≠ .dead ∧ cs[o]? = some v := by
  obtain ⟨rfl, rfl, B, hb, hl, hv⟩ := rd_some e
  exact ⟨rfl, rfl, B.cells, B.kind, hb, hl, hv⟩

/-- All that is told of a run of it. -/
theorem mkM_some {G : Nat} {mS mC : List Value → M Value} {z x : Value} {n n' : Nat} {h h' : H} {u : Unit} (e : mkM (gcM G mS) (gcM G mC) z x n h = some (u, n', h'))
    (hmap : ∀ m sz cl E, h.get m = some (mapB sz cl E) → (∀ p, p ∈ E → ikey sz p.1 = true) ∧ E.Pairwise fun p q => p.1 ≠ q.1) :
    ∃ mb gb m cl L tot gr gk, x = pn mb 0 ∧ Set0 (gcM G mS) (gcM G mC) z mb gb m cl n L tot gr gk h ∧ (∀ e, e ∈ L → e.t < cl) ∧ n' = n + 1 + L.length ∧
      h'.get gb = some ⟨.map (some m) :: .int .i64 ((tot + sumL L : Nat) : Int) :: gr, gk⟩ ∧ h'.get m = some (mapB 5 cl (L.map fun e => (e.k, e.v', e.t))) ∧ (∀ e, e ∈ L → h'.get e.b = some e.C2) ∧
      (∀ y, n ≤ y → y < n' → h'.get y = some dead) ∧ (∀ y, y ≠ gb → y ≠ m → (∀ e, e ∈ L → y ≠ e.b) → (n ≤ y → y < n' → False) → h'.get y = h.get y) ∧ Gr h h' := by
  obtain ⟨q, hq⟩ : ∃ q, q = mkM (gcM G mS) (gcM G mC) z x := ⟨_, rfl⟩
  rw [← hq] at e
  unfold mkM at hq
  split at hq
  case h_2 => subst hq; cases e
  rename_i mb
  subst hq
  obtain ⟨gp, n1, h1, e1, f1⟩ := bnd_some e
  clear e
  obtain ⟨rfl, rfl, mcs, mk, hx, hmk, h3⟩ := rd_live e1
  split at f1
  case h_2 => cases f1
  rename_i gb
  obtain ⟨mv, n2, h2, e2, f2⟩ := bnd_some f1
  clear f1
  obtain ⟨rfl, rfl, gcs, gk, hg, hgk, hg0⟩ := rd_live e2
  obtain ⟨nv, n3, h3', e3, f3⟩ := bnd_some f2
  clear f2
  obtain ⟨rfl, rfl, gcs', gk', hg', _, hg1⟩ := rd_live e3
  rw [hg] at hg'
  cases hg'
  split at f3
  case h_2 => cases f3
  rename_i m tot
  obtain ⟨cs, n4, h4, e4, f4⟩ := bnd_some f3
  clear f3
  obtain ⟨rfl, rfl, hm⟩ := mpGet_some e4
  split at f4
  case h_2 => cases f4
  rename_i sz cl es
  split at f4
  case h_2 => cases f4
  rename_i E hE
  have hes := decE_some hE
  subst hes
  split at f4
  case isFalse => cases f4
  rename_i hc
  obtain ⟨rfl, hcl, hbn, hbk, htot, hgm⟩ := hc
  obtain ⟨nb, n5, h5, e5, f5⟩ := bnd_some f4
  clear f4
  obtain ⟨hnb, hn5, hfresh, rfl, _⟩ := new_some e5
  subst hn5
  obtain ⟨q, n6, h6, e6, f6⟩ := bnd_some f5
  clear f5
  obtain ⟨L, hEL, hL, hLb, hq1, hq2, hq3, hn6, hfr, hC2, hdead, hoth, hgr⟩ := go_some hbk e6
  obtain ⟨_, n7, h7, e7, f7⟩ := bnd_some f6
  clear f6
  obtain ⟨rfl, rfl⟩ := mpSet_some e7
  obtain ⟨rfl, B, hB, hBm, hBl, rfl, _⟩ := wrN_some (wr1_some f7)
  have hfresh : h4.get n4 = none := hfresh
  -- nobody is where another one is
  have hmL : (mapB 5 cl E) = ⟨.nilFunc :: .int .u64 (Int.ofNat 5) :: .int .u64 (Int.ofNat cl) :: flatE E, .dead⟩ := rfl
  rw [← hmL] at hm
  obtain ⟨hkeys, hdist⟩ := hmap m 5 cl E hm
  have gcs2 : ∃ gr, gcs = .map (some m) :: .int .i64 (tot : Nat) :: gr := by
    match gcs, hg0, hg1 with
    | a :: b :: r, h0, h1 =>
      simp only [List.getElem?_cons_zero, List.getElem?_cons_succ, Option.some.injEq] at h0 h1
      exact ⟨r, by rw [h0, h1]; rfl⟩
  obtain ⟨gr, rfl⟩ := gcs2
  have nm : n4 ≠ m := fun q => by rw [q, hm] at hfresh; cases hfresh
  have ng : n4 ≠ gb := fun q => by rw [q, hg] at hfresh; cases hfresh
  have nx : n4 ≠ mb := fun q => by rw [q, hx] at hfresh; cases hfresh
  have hgg : m ≠ gb := fun q => by
    rw [q, hg] at hm
    have := Option.some.inj hm
    unfold mapB at this
    cases this
  have back : ∀ e, e ∈ L → h4.get e.b = some e.B ∧ e.b ≠ n4 := fun e he => by
    have h1 := (hL e he).2
    have hne : e.b ≠ n4 := fun q => by
      rw [q, H.get_set_same] at h1
      have h2 := (hL e he).1.kind
      rw [← Option.some.inj h1] at h2
      rcases h2 with h2 | h2 <;> cases h2
    rw [H.get_set_ne _ _ hne] at h1
    exact ⟨h1, hne⟩
  have hbm : ∀ e, e ∈ L → e.b ≠ m := fun e he q => by
    have h1 := (back e he).1
    have h2 := (hL e he).1.kind
    rw [q, hm] at h1
    rw [← Option.some.inj h1] at h2
    exact not_mine_mapB _ _ _ h2
  have hbx : ∀ e, e ∈ L → e.b ≠ mb := fun e he q => by
    have h1 := (back e he).1
    have h2 := (hL e he).1.plain
    rw [q, hx] at h1
    rw [← Option.some.inj h1] at h2
    have := List.all_eq_true.1 h2 _ (List.mem_of_getElem? h3)
    simp [okC0] at this
  have hbg : ∀ e, e ∈ L → e.b ≠ gb := fun e he q => by
    have h1 := (back e he).1
    have h2 := (hL e he).1.plain
    rw [q, hg] at h1
    rw [← Option.some.inj h1] at h2
    simp [okC0] at h2
  have fr : ∀ y, n4 + 1 ≤ y → y < n4 + 1 + L.length → h4.get y = none := fun y h1 h2 => by
    have := hfr y h1 (by omega)
    rw [H.get_set_ne _ _ (by omega)] at this
    exact this
  have hmy : ∀ y, n4 ≤ y → y < n4 + 1 + L.length → y ≠ m ∧ y ≠ gb ∧ y ≠ mb ∧ ∀ e, e ∈ L → y ≠ e.b := fun y h1 h2 => by
    have hy : h4.get y = none := by
      by_cases hyn : y = n4
      · rw [hyn]; exact hfresh
      · exact fr y (by omega) h2
    exact ⟨fun q => (by rw [q, hm] at hy; cases hy), fun q => (by rw [q, hg] at hy; cases hy), fun q => (by rw [q, hx] at hy; cases hy), fun e he q => (by rw [q, (back e he).1] at hy; cases hy)⟩
  have hEs : E = entS L [] := by
    rw [hEL]
    unfold entS
    simp
  have ghm : h6.get gb = some ⟨.map (some m) :: .int .i64 (tot : Nat) :: gr, gk⟩ := by
    rw [hoth gb (fun e he => Ne.symm (hbg e he)) (fun h1 h2 => (hmy gb (by omega) (by omega)).2.1 rfl), H.get_set_ne _ _ (Ne.symm ng)]
    exact hg
  rw [H.get_set_ne _ _ (Ne.symm hgg), ghm] at hB
  cases hB
  have hbt : (L.map (·.t)).Nodup := by
    have := hbn
    rw [hEs, borns_entS] at this
    exact this
  have hcl' : ∀ e, e ∈ L → e.t < cl := fun e he => by
    have := List.all_eq_true.1 hcl (e.k, e.v, e.t) (by rw [hEL]; exact List.mem_map.2 ⟨e, he, rfl⟩)
    simpa using this
  have hsm : tot + sumL L < 4611686018427387904 := by
    by_cases hLn : L = []
    · rw [hLn]; show tot + 0 < _; omega
    · have := hq3 hLn
      rw [hq2] at this
      exact this
  refine ⟨mb, gb, m, cl, L, tot, gr, gk, rfl, ⟨fun e he => (hL e he).1, ⟨mcs, mk, hx, hmk, h3⟩, hg, hBm, by rw [← hEs]; exact hm, fun e he => hkeys (e.k, e.v, e.t) (by rw [hEL]; exact List.mem_map.2 ⟨e, he, rfl⟩), ?_, hbt, hLb, fun e he => (back e he).1, hbx, hbg, hgm, hsm, ?_⟩, hcl', by omega, ?_, ?_, ?_, ?_, ?_, ?_⟩
  · have := hdist
    rw [hEs] at this
    rw [← entS_keys L []]
    exact List.pairwise_map.2 this
  · intro y h1 h2
    by_cases hyn : y = n4
    · rw [hyn]; exact hfresh
    · exact fr y (by omega) h2
  · rw [H.get_set_same, ← hq2]
    rfl
  · rw [H.get_set_ne _ _ hgg, H.get_set_same, hq1]
    rfl
  · intro e he
    rw [H.get_set_ne _ _ (hbg e he), H.get_set_ne _ _ (hbm e he)]
    exact hC2 e he
  · intro y h1 h2
    have hy := hmy y h1 (by omega)
    rw [H.get_set_ne _ _ hy.2.1, H.get_set_ne _ _ hy.1]
    by_cases hyn : y = n4
    · rw [hyn, hoth n4 (fun e he => Ne.symm (back e he).2) (fun h1 _ => by omega), H.get_set_same]
      rfl
    · exact hdead y (by omega) h2
  · intro y h1 h2 h3 h4'
    rw [H.get_set_ne _ _ h1, H.get_set_ne _ _ h2, hoth y h3 (fun a b => h4' (by omega) b), H.get_set_ne _ _ (fun q => h4' (by omega) (by omega))]
  · exact ((hgr _ ((Gr.refl _).set _ _)).set _ _).set _ _

/-- All rounds, in whatever order, come to what the one step comes to. -/
theorem mk_all {G : Nat} {mS mC : List Value → M Value} {z x : Value} {n n' : Nat} {h h' : H} {u : Unit} (e : mkM (gcM G mS) (gcM G mC) z x n h = some (u, n', h'))
    (hmap : ∀ m sz cl E, h.get m = some (mapB sz cl E) → (∀ p, p ∈ E → ikey sz p.1 = true) ∧ E.Pairwise fun p q => p.1 ≠ q.1) :
    ∃ mb gb m cl L tot gr gk, x = pn mb 0 ∧ Set0 (gcM G mS) (gcM G mC) z mb gb m cl n L tot gr gk h ∧ (∀ e, e ∈ L → e.t < cl) ∧
      ∀ {body : Value → Value → List Value → M Value}, (∀ k v q g r, mkT (gcM G mS) (gcM G mC) z k v (pn mb 0) (pn n 0) q g = some r → body k v [pn mb 0, pn n 0] q g = some r) →
        ∀ π, π.Perm (L.map (·.t)) → ∃ s' n'' h'', Rounds (fun s => s = [pn mb 0, pn n 0]) body (fun q _ g => deadR [q] g) n m 5 cl (L.map (·.t)) π [] [pn mb 0, pn n 0] (n + 1) (h.set n (iterB m cl cl [])) s' n'' h'' ∧
          s' = [pn mb 0, pn n 0] ∧ n'' = n' ∧ h''.set n dead = h' ∧ (h''.get n).isSome = true := by
  obtain ⟨mb, gb, m, cl, L, tot, gr, gk, hx, X, hcl, hn', hgb, hm', hC2, hdead, hoth, hgr⟩ := mkM_some e hmap
  refine ⟨mb, gb, m, cl, L, tot, gr, gk, hx, X, hcl, fun {body} hbody π hπ => ?_⟩
  have hii : h.get n = none := X.fresh n (Nat.le_refl _) (by omega)
  have him : n ≠ m := fun q => by rw [q, X.hm] at hii; cases hii
  have hig : n ≠ gb := fun q => by rw [q, X.hg] at hii; cases hii
  have hib : ∀ f, f ∈ L → n ≠ f.b := fun f hf q => by rw [q, X.hb f hf] at hii; cases hii
  have I0 : Inv (gcM G mS) (gcM G mC) z mb gb m cl n L tot gr gk h [] [pn mb 0, pn n 0] (n + 1) (h.set n (iterB m cl cl [])) := by
    refine ⟨rfl, rfl, List.nodup_nil, (fun t ht => nomatch ht), H.get_set_same _ _ _, ?_, ?_, ?_, (fun x h1 h2 => by omega), ?_, (Gr.refl _).set _ _⟩
    · rw [H.get_set_ne _ _ (Ne.symm him)]; exact X.hm
    · rw [H.get_set_ne _ _ (Ne.symm hig), totS_nil]; exact X.hg
    · intro f hf
      rw [H.get_set_ne _ _ (Ne.symm (hib f hf)), X.hb f hf]
      simp
    · intro y h1 h2 h3 h4 h5
      rw [H.get_set_ne _ _ h1]
  obtain ⟨s', n'', h'', hr, hI⟩ := rounds_of_inv (good := fun s => s = [pn mb 0, pn n 0]) (Inv (gcM G mS) (gcM G mC) z mb gb m cl n L tot gr gk h) (fun seen s q g t I ht hs => inv_step X hbody seen s q g t I ht hs) π [] _ _ _ I0 (hπ.nodup_iff.2 X.borns) (fun t ht => ⟨hπ.mem_iff.1 ht, by simp⟩)
  rw [List.nil_append] at hI
  refine ⟨s', n'', h'', hr, hI.s_eq, ?_, ?_, by rw [hI.hi]; rfl⟩
  · rw [hI.n_eq, hn', hπ.length_eq, List.length_map]
  · have hall : ∀ e, e ∈ L → e.t ∈ π := fun e he => hπ.mem_iff.2 (List.mem_map.2 ⟨e, he, rfl⟩)
    refine Gr.ext (hI.gr.set _ _) hgr fun y => ?_
    have hnn : n'' = n' := by rw [hI.n_eq, hn', hπ.length_eq, List.length_map]
    rw [H.get_set]
    split
    · rename_i hy
      rw [hy, hdead n (Nat.le_refl _) (by omega)]
    · rename_i hy
      by_cases h1 : y = m
      · rw [h1, hI.hm, hm']
        congr 2
        unfold entS
        exact List.map_congr_left fun e he => by rw [if_pos (hall e he)]
      · by_cases h2 : y = gb
        · rw [h2, hI.hg, hgb, totS_all hall]
        · by_cases h3 : ∃ e, e ∈ L ∧ y = e.b
          · obtain ⟨e, he, rfl⟩ := h3
            rw [hI.hb e he, hC2 e he, if_pos (hall e he)]
          · have h3' : ∀ e, e ∈ L → y ≠ e.b := fun e he q => h3 ⟨e, he, q⟩
            by_cases h4 : n + 1 ≤ y ∧ y < n''
            · rw [hI.hd y h4.1 h4.2, hdead y (by omega) (by omega)]
            · rw [hI.ho y hy h1 h2 h3' (fun a b => h4 ⟨a, b⟩), hoth y h2 h1 h3' (fun a b => h4 ⟨by omega, by omega⟩)]

end Go.Fw
end
section
set_option linter.unusedVariables false
namespace Go.Fw
open Go.Fk (new_of)

/-- So many blocks that nobody looks at. -/
def newsD : Nat → M Unit
  | 0 => ret ()
  | j + 1 => bnd (new [] .dead) fun _ => newsD j
theorem newsD_some : ∀ {j n n' : Nat} {h h' : H} {u : Unit}, newsD j n h = some (u, n', h') → n' = n + j ∧ (∀ x, n ≤ x → x < n + j → h.get x = none) ∧ (∀ x, h'.get x = if n ≤ x ∧ x < n + j then some dead else h.get x) ∧ ∀ s, Gr s h → Gr s h'
  | 0, n, n', h, h', u, e => by
    obtain ⟨_, rfl, rfl⟩ := ret_some e
    exact ⟨rfl, fun x h1 h2 => by omega, fun x => by rw [if_neg (by omega)], fun s hs => hs⟩
  | j + 1, n, n', h, h', u, e => by
    obtain ⟨b, n1, h1, e1, e2⟩ := bnd_some (show bnd (new [] .dead) (fun _ => newsD j) n h = _ from e)
    obtain ⟨rfl, rfl, hf, rfl, _⟩ := new_some e1
    obtain ⟨r1, r2, r3, r4⟩ := newsD_some e2
    refine ⟨by omega, fun x h1 h2 => ?_, fun x => ?_, fun s hs => r4 s (hs.set _ _)⟩
    · by_cases hx : x = b
      · rw [hx]; exact hf
      · have := r2 x (by omega) (by omega)
        rw [H.get_set_ne _ _ hx] at this
        exact this
    · rw [r3 x]
      by_cases hx : x = b
      · subst hx
        rw [if_neg (by omega), if_pos (by omega), H.get_set_same]
        rfl
      · rw [H.get_set_ne _ _ hx]
        by_cases h2 : b + 1 ≤ x ∧ x < b + 1 + j
        · rw [if_pos h2, if_pos (by omega)]
        · rw [if_neg h2, if_neg (by omega)]

/-- At this argument, where block b is B, there comes v, and b is C, and no more. -/
def Turns (S : Value → M Value) (x : Value) (b : Nat) (B : Blk) (v : Value) (C : Blk) : Prop := ∀ n h, h.get b = some B → S x n h = some (v, n, h.set b C)
/-- In whatever order the keys lie. -/
def SameP (S : Value → M Value) (ks : List Value) (b : Nat) : Prop := ∃ v C, ∀ ks', List.Perm ks' ks → Turns S (colV b ks) b ⟨flatK ks', .grow⟩ v C

open Classical in
noncomputable def colM (S : Value → M Value) (x : Value) : M Value :=
  match x with
  | .map (some m) => bnd (mpGet m) fun cs => match cs with
    | .int .u64 (.ofNat sz) :: .int .u64 (.ofNat cl) :: es => match decE es with
      | some E => if sz = 2 ∧ E.all (fun p => decide (p.2.2 < cl)) = true ∧ (borns E).Nodup ∧ E.length < 1000000 then
          (if E = [] then bnd (new [] .dead) fun _ => S (.slice none 0 0)
          else bnd (newsD (3 * E.length)) fun _ => bnd (new (flatK (E.map (·.1))) .grow) fun b => if SameP S (E.map (·.1)) b then S (colV b (E.map (·.1))) else fail)
        else fail
      | none => fail
    | _ => fail
  | _ => fail

theorem colV_len {c : Nat} {ks ks' : List Value} (h : ks.length = ks'.length) : colV c ks = colV c ks' := by
  cases ks with
  | nil => cases ks' with
    | nil => rfl
    | cons _ _ => simp at h
  | cons a r => cases ks' with
    | nil => simp at h
    | cons b r' => show Value.slice (some ⟨c, 0, none⟩) (a :: r).length (U + 2) = .slice (some ⟨c, 0, none⟩) (b :: r').length (U + 2); rw [h]

theorem col_all {S : Value → M Value} {x v : Value} {n n' : Nat} {h h' : H} (e : colM S x n h = some (v, n', h'))
    (hmap : ∀ m sz cl E, h.get m = some (mapB sz cl E) → (∀ p, p ∈ E → ikey sz p.1 = true) ∧ E.Pairwise fun p q => p.1 ≠ q.1) :
    ∃ m cl E, x = .map (some m) ∧ CSet m cl n E h ∧ (∀ p, p ∈ E → p.2.2 < cl) ∧ ∀ π s q g, List.Perm π (borns E) → CInv m cl n E h π s q g →
      s = [colV (q - 1) (E.map (·.1)), pn n 0] ∧ (g.get n).isSome = true ∧ S (colV (q - 1) (E.map (·.1))) q (g.set n dead) = some (v, n', h') := by
  classical
  obtain ⟨q, hq⟩ : ∃ q, q = colM S x := ⟨_, rfl⟩
  rw [← hq] at e
  unfold colM at hq
  split at hq
  case h_2 => subst hq; cases e
  rename_i m
  subst hq
  obtain ⟨cs, n1, h1, e1, f1⟩ := bnd_some e
  clear e
  obtain ⟨rfl, rfl, hm⟩ := mpGet_some e1
  split at f1
  case h_2 => cases f1
  rename_i sz cl es
  split at f1
  case h_2 => cases f1
  rename_i E hE
  have hes := decE_some hE
  subst hes
  split at f1
  case isFalse => cases f1
  rename_i hc
  obtain ⟨rfl, hcl, hbn, hlen⟩ := hc
  have hmL : (mapB 2 cl E) = ⟨.nilFunc :: .int .u64 (Int.ofNat 2) :: .int .u64 (Int.ofNat cl) :: flatE E, .dead⟩ := rfl
  rw [← hmL] at hm
  obtain ⟨hkeys, hdist⟩ := hmap m 2 cl E hm
  have hcl' : ∀ p, p ∈ E → p.2.2 < cl := fun p hp => by
    have := List.all_eq_true.1 hcl p hp
    simpa using this
  have hbl : (borns E).length = E.length := by unfold borns; rw [List.length_map]
  have key : ∀ π s q g, List.Perm π (borns E) → CInv m cl n1 E h1 π s q g → s = [colV (q - 1) (E.map (·.1)), pn n1 0] ∧ (g.get n1).isSome = true ∧ q = n1 + 1 + 3 * E.length ∧ List.Perm (π.map (keyAt E)) (E.map (·.1)) := by
    intro π s q g hp I
    have h1 : π.length = E.length := by rw [hp.length_eq, hbl]
    have h2 : List.Perm (π.map (keyAt E)) (E.map (·.1)) := by
      have := hp.map (keyAt E)
      rw [keyAt_all hbn] at this
      exact this
    refine ⟨?_, by rw [I.hi]; rfl, by rw [I.n_eq, h1], h2⟩
    rw [I.s_eq, colV_len h2.length_eq]
  by_cases hEn : E = []
  · rw [if_pos hEn] at f1
    obtain ⟨b, n2, h2, e2, f2⟩ := bnd_some f1
    obtain ⟨rfl, rfl, hf, rfl, _⟩ := new_some e2
    refine ⟨m, cl, E, rfl, ⟨hm, hkeys, hbn, hlen, fun x h1 h2 => ?_⟩, hcl', fun π s q g hp I => ?_⟩
    · subst hEn
      have : x = b := by simp at h2; omega
      rw [this]; exact hf
    · obtain ⟨k1, k2, k3, _⟩ := key π s q g hp I
      refine ⟨k1, k2, ?_⟩
      have hqn : q = b + 1 := by rw [k3, hEn]; rfl
      have hg : g.set b dead = h1.set b dead := Gr.ext (I.gr.set _ _) ((Gr.refl _).set _ _) fun y => by
        rw [H.get_set, H.get_set]
        split
        · rfl
        · rename_i hy
          exact I.ho y hy fun a c => by omega
      rw [hg, hqn, hEn]
      exact f2
  · rw [if_neg hEn] at f1
    obtain ⟨_, n2, h2, e2, f2⟩ := bnd_some f1
    obtain ⟨hn2, hfr, hget, hgr⟩ := newsD_some e2
    obtain ⟨b, n3, h3, e3, f3⟩ := bnd_some f2
    obtain ⟨hb, hn3, hf, hh3, _⟩ := new_some e3
    subst hb hn3 hh3
    split at f3
    case isFalse => cases f3
    rename_i hS
    obtain ⟨v0, C, hS⟩ := hS
    have hrun := hS (E.map (·.1)) (List.Perm.refl _) (b + 1) (h2.set b ⟨flatK (E.map (·.1)), .grow⟩) (H.get_set_same _ _ _)
    rw [f3] at hrun
    simp only [Option.some.injEq, Prod.mk.injEq] at hrun
    obtain ⟨rfl, rfl, rfl⟩ := hrun
    have hbf : h1.get b = none := by
      have := hget b
      rw [if_neg (by omega)] at this
      rw [← this]
      exact hf
    refine ⟨m, cl, E, rfl, ⟨hm, hkeys, hbn, hlen, fun x h1 h2 => ?_⟩, hcl', fun π s q g hp I => ?_⟩
    · by_cases hx : x = b
      · rw [hx]; exact hbf
      · exact hfr x (by omega) (by omega)
    · obtain ⟨k1, k2, k3, k4⟩ := key π s q g hp I
      refine ⟨k1, k2, ?_⟩
      have hpos : 0 < E.length := List.length_pos_iff.2 hEn
      have hqb : q - 1 = b := by omega
      have hqb' : q = b + 1 := by omega
      have hπ : π ≠ [] := fun q => by
        have := hp.length_eq
        rw [q, hbl] at this
        simp at this; omega
      have hgb : (g.set n1 dead).get b = some ⟨flatK (π.map (keyAt E)), .grow⟩ := by
        rw [H.get_set_ne _ _ (by omega)]
        have := I.hl hπ
        rw [hqb] at this
        exact this
      rw [hqb, hS _ k4 q (g.set n1 dead) hgb, hqb']
      have hg : (g.set n1 dead).set b C = (h2.set b ⟨flatK (E.map (·.1)), .grow⟩).set b C := Gr.ext ((I.gr.set _ _).set _ _) (((hgr _ (Gr.refl _)).set _ _).set _ _) fun y => by
        by_cases hy : y = b
        · rw [hy, H.get_set_same, H.get_set_same]
        · rw [H.get_set_ne _ _ hy, H.get_set_ne _ _ hy, H.get_set_ne _ _ hy, H.get_set, hget y]
          by_cases hyn : y = n1
          · rw [if_pos hyn, if_pos (by omega)]
          · rw [if_neg hyn]
            by_cases h5 : n1 ≤ y ∧ y < n1 + 3 * E.length
            · rw [if_pos h5]
              exact I.hd y (by omega) (by omega)
            · rw [if_neg h5]
              exact I.ho y hyn fun a c => by omega
      rw [hg]
end Go.Fw
end
section
set_option linter.unusedVariables false
namespace Go.Fk
open Go Go.Fw

noncomputable def isPlain (x : V) (k : R) : R := @V.rec (fun _ => R) (.bad) (.bad) (fun x => k) (fun z => k) (fun kd z => k) (fun n => k) (fun _ _ => .bad) (k) (fun _ _ _ _ => .bad) (k) (.bad) (fun _ _ _ _ => .bad) (fun _ _ => .bad) (fun _ _ => .bad) (fun _ => .bad) (k) (fun _ _ _ => .bad) (k) (fun _ _ _ => .bad) (k) (fun s => k) x
noncomputable def plains (l : V) (k : R) : R := @V.rec (fun _ => R) (k) (k) (fun _ => k) (fun _ => k) (fun _ _ => k) (fun _ => k) (fun _ _ => k) (k) (fun _ _ _ _ => k) (k) (k) (fun x _ _ ih => isPlain x ih) (fun _ _ => k) (fun _ _ => k) (fun _ => k) (k) (fun _ _ _ => k) (k) (fun _ _ _ => k) (k) (fun _ => k) l
noncomputable def gcVK (d : Ad) (v : V) : V := @V.rec (fun _ => V) (.u) (.u) (fun _ => .u) (fun _ => .u) (fun _ _ => .u) (fun _ => .u) (fun _ _ => .u) (.u) (fun a o len cap => @Bool.rec (fun _ => V) .u (@Bool.rec (fun _ => V) .u (.s d 0 len cap) (Nat.beq o 0)) (Nat.beq (num a) 2)) (.ns) (.u) (fun _ _ _ _ => .u) (fun _ _ => .u) (fun _ _ => .u) (fun _ => .u) (.u) (fun _ _ _ => .u) (.u) (fun _ _ _ => .u) (.u) (fun _ => .u) v
noncomputable def onBk (x : Bk) (kown kgrow : V → R) : R := @Bk.rec (fun _ => R) .bad (fun _ => .bad) kown kgrow (fun _ => .bad) x
noncomputable def onR (r : R) (k : V → T4 → R) : R := @R.rec (fun _ => R) .bad (fun v _ t => nsk v (k v t)) r
noncomputable def gT : T4 := put (adOf 0) (.dead .nil) (put (adOf 1) (.dead .nil) z4)
noncomputable def gA : Ad := ⟨.d0, .d0, .d0, .d2⟩
noncomputable def gA1 : Ad := ⟨.d0, .d0, .d0, .d3⟩
noncomputable def gcVN (v : V) : V := @V.rec (fun _ => V) (.u) (.u) (fun _ => .u) (fun _ => .u) (fun _ _ => .u) (fun _ => .u) (fun _ _ => .u) (.u) (fun _ _ _ _ => .u) (.ns) (.u) (fun _ _ _ _ => .u) (fun _ _ => .u) (fun _ _ => .u) (fun _ => .u) (.u) (fun _ _ _ => .u) (.u) (fun _ _ _ => .u) (.u) (fun _ => .u) v
/-- A function that turns one block, run beside the heap. -/
noncomputable def kGc (fl : KF) (x : V) (rest : List V) (K : V → St) : St := fun a t =>
  onSl x (onR (fl (.ns :: rest) fin gA gT) fun v _ => K (gcVN v) a t)
    fun d o len cap => ifR (Nat.beq o 0) (ifR (Nat.ble 2 (num d)) (onBk (get d t)
      (fun l => plains l (onR (fl (.s gA 0 len cap :: rest) fin gA1 (put gA (.own l) gT)) fun v t1 => onBk (get gA t1) (fun l' => plains l' (K (gcVK d v) a (put d (.own l') t))) (fun _ => .bad)))
      (fun l => plains l (onR (fl (.s gA 0 len cap :: rest) fin gA1 (put gA (.grow l) gT)) fun v t1 => onBk (get gA t1) (fun _ => .bad) (fun l' => plains l' (K (gcVK d v) a (put d (.grow l') t)))))) .bad) .bad

noncomputable def mkGo (srt cmp : V → (V → St) → St) : V → Nat → Nat → (V → Nat → St) → St := fun es => @V.rec (fun _ => Nat → Nat → (V → Nat → St) → St) (fun ph n K => @Nat.rec (fun _ => St) (K .nil n) (fun _ _ => bad) ph) (fun ph n K => @Nat.rec (fun _ => St) (K .nil n) (fun _ _ => bad) ph) (fun _ => fun ph n K => @Nat.rec (fun _ => St) (K .nil n) (fun _ _ => bad) ph) (fun _ => fun ph n K => @Nat.rec (fun _ => St) (K .nil n) (fun _ _ => bad) ph) (fun _ _ => fun ph n K => @Nat.rec (fun _ => St) (K .nil n) (fun _ _ => bad) ph) (fun _ => fun ph n K => @Nat.rec (fun _ => St) (K .nil n) (fun _ _ => bad) ph) (fun _ _ => fun ph n K => @Nat.rec (fun _ => St) (K .nil n) (fun _ _ => bad) ph) (fun ph n K => @Nat.rec (fun _ => St) (K .nil n) (fun _ _ => bad) ph) (fun _ _ _ _ => fun ph n K => @Nat.rec (fun _ => St) (K .nil n) (fun _ _ => bad) ph) (fun ph n K => @Nat.rec (fun _ => St) (K .nil n) (fun _ _ => bad) ph) (fun ph n K => @Nat.rec (fun _ => St) (K .nil n) (fun _ _ => bad) ph) (fun x r _ ih ph n K => @Nat.rec (fun _ => St) (fun a t => on_cons r fun v r2 => on_cons r2 fun tt _ => srt v (fun _ => cmp v fun v' => fun a t => inc (fun a t => on_s v fun d o _ _ => ifR (Nat.beq o 0) (on_s v' fun d' o' len _ => ifR (Nat.beq o' 0) (ifR (Nat.beq (num d') (num d)) (ifR (Nat.blt (Nat.add n len) 4611686018427387904) (ih 2 (Nat.add n len) (fun es' n' => K (.cons x (.cons v' (.cons tt es'))) n') a t) .bad) .bad) .bad) .bad) a (put a (.dead .nil) t)) a t) (fun q _ => ih q n K) ph) (fun _ _ => fun ph n K => @Nat.rec (fun _ => St) (K .nil n) (fun _ _ => bad) ph) (fun _ _ => fun ph n K => @Nat.rec (fun _ => St) (K .nil n) (fun _ _ => bad) ph) (fun _ => fun ph n K => @Nat.rec (fun _ => St) (K .nil n) (fun _ _ => bad) ph) (fun ph n K => @Nat.rec (fun _ => St) (K .nil n) (fun _ _ => bad) ph) (fun _ _ _ => fun ph n K => @Nat.rec (fun _ => St) (K .nil n) (fun _ _ => bad) ph) (fun ph n K => @Nat.rec (fun _ => St) (K .nil n) (fun _ _ => bad) ph) (fun _ _ _ => fun ph n K => @Nat.rec (fun _ => St) (K .nil n) (fun _ _ => bad) ph) (fun ph n K => @Nat.rec (fun _ => St) (K .nil n) (fun _ _ => bad) ph) (fun _ => fun ph n K => @Nat.rec (fun _ => St) (K .nil n) (fun _ _ => bad) ph) es
/-- Births rise, below the clock; the lists' blocks are all different. -/
noncomputable def notIn (x : Nat) (l : List Nat) (k : R) : R := @List.rec Nat (fun _ => R) k (fun y _ ih => ifR (Nat.beq x y) .bad ih) l
noncomputable def bornK (cl : Nat) (es : V) : Nat → Nat → List Nat → R → R := @V.rec (fun _ => Nat → Nat → List Nat → R → R) (fun ph lo l k => @Nat.rec (fun _ => R) k (fun _ _ => .bad) ph) (fun ph lo l k => @Nat.rec (fun _ => R) k (fun _ _ => .bad) ph) (fun _ => fun ph lo l k => @Nat.rec (fun _ => R) k (fun _ _ => .bad) ph) (fun _ => fun ph lo l k => @Nat.rec (fun _ => R) k (fun _ _ => .bad) ph) (fun _ _ => fun ph lo l k => @Nat.rec (fun _ => R) k (fun _ _ => .bad) ph) (fun _ => fun ph lo l k => @Nat.rec (fun _ => R) k (fun _ _ => .bad) ph) (fun _ _ => fun ph lo l k => @Nat.rec (fun _ => R) k (fun _ _ => .bad) ph) (fun ph lo l k => @Nat.rec (fun _ => R) k (fun _ _ => .bad) ph) (fun _ _ _ _ => fun ph lo l k => @Nat.rec (fun _ => R) k (fun _ _ => .bad) ph) (fun ph lo l k => @Nat.rec (fun _ => R) k (fun _ _ => .bad) ph) (fun ph lo l k => @Nat.rec (fun _ => R) k (fun _ _ => .bad) ph) (fun x r _ ih ph lo l k => @Nat.rec (fun _ => R) (on_cons r fun v r2 => on_cons r2 fun tt _ => on_s v fun d o _ _ => ifR (Nat.beq o 0) (notIn (num d) l (on_i tt fun z => @Int.rec (fun _ => R) (fun s => ifR (Nat.ble lo s) (ifR (Nat.blt s cl) (ih 2 (Nat.succ s) (List.cons (num d) l) k) .bad) .bad) (fun _ => .bad) z)) .bad) (fun q _ => ih q lo l k) ph) (fun _ _ => fun ph lo l k => @Nat.rec (fun _ => R) k (fun _ _ => .bad) ph) (fun _ _ => fun ph lo l k => @Nat.rec (fun _ => R) k (fun _ _ => .bad) ph) (fun _ => fun ph lo l k => @Nat.rec (fun _ => R) k (fun _ _ => .bad) ph) (fun ph lo l k => @Nat.rec (fun _ => R) k (fun _ _ => .bad) ph) (fun _ _ _ => fun ph lo l k => @Nat.rec (fun _ => R) k (fun _ _ => .bad) ph) (fun ph lo l k => @Nat.rec (fun _ => R) k (fun _ _ => .bad) ph) (fun _ _ _ => fun ph lo l k => @Nat.rec (fun _ => R) k (fun _ _ => .bad) ph) (fun ph lo l k => @Nat.rec (fun _ => R) k (fun _ _ => .bad) ph) (fun _ => fun ph lo l k => @Nat.rec (fun _ => R) k (fun _ _ => .bad) ph) es
noncomputable def kMkLoop (srt cmp : V → (V → St) → St) (F : Nat) (m : V) (k : St) : St := fun a t =>
  on_p m fun mb o => ifR (Nat.beq o 0) (live (get mb t) fun cs => nthK 3 cs fun g => on_p g fun gb o2 => ifR (Nat.beq o2 0) (ifR (Nat.beq (num gb) (num mb)) .bad (live (get gb t) fun gc => nthK 0 gc fun mv => on_m mv fun d => nthK 1 gc fun nv => on_n nv (fun n =>
    mpK d t fun r => on_cons r fun w1 r => on_w w1 fun sz => on_cons r fun w2 es => on_w w2 fun cl => ifR (Nat.beq sz 5) (ifR (Nat.blt n 4611686018427387904) (bornK cl es 0 0 []
      (inc (mkGo srt cmp es 0 n fun es' n' => fun a t => mpK d t fun _ => mine (get gb t) fun f gc2 => setK (.i (.ofNat n')) 1 gc2 fun gc3 =>
        k a (put gb (f gc3) (put d (.dead (.cons .nf (.cons (.w 5) (.cons (.w cl) es')))) t))) a (put a (.dead .nil) t))) .bad) .bad) .bad)) .bad) .bad


noncomputable def flatK (es : V) : Nat → V := @V.rec (fun _ => Nat → V) (fun _ => .nil) (fun _ => .nil) (fun _ => fun _ => .nil) (fun _ => fun _ => .nil) (fun _ _ => fun _ => .nil) (fun _ => fun _ => .nil) (fun _ _ => fun _ => .nil) (fun _ => .nil) (fun _ _ _ _ => fun _ => .nil) (fun _ => .nil) (fun _ => .nil) (fun x r _ ih ph => @Nat.rec (fun _ => V) (app (@V.rec (fun _ => V) (.nil) (.nil) (fun _ => .nil) (fun _ => .nil) (fun _ _ => .nil) (fun _ => .nil) (fun _ _ => .nil) (.nil) (fun _ _ _ _ => .nil) (.nil) (.nil) (fun _ _ _ _ => .nil) (fun l _ => l) (fun _ _ => .nil) (fun _ => .nil) (.nil) (fun _ _ _ => .nil) (.nil) (fun _ _ _ => .nil) (.nil) (fun _ => .nil) x) (ih 2)) (fun q _ => ih q) ph) (fun _ _ => fun _ => .nil) (fun _ _ => fun _ => .nil) (fun _ => fun _ => .nil) (fun _ => .nil) (fun _ _ _ => fun _ => .nil) (fun _ => .nil) (fun _ _ _ => fun _ => .nil) (fun _ => .nil) (fun _ => fun _ => .nil) es
end Go.Fk
end
section
set_option linter.unusedVariables false
namespace Go.Fk
open Go Go.Fw

theorem isPlain_ok {x : V} {k : R} {v : V} {a : Ad} {t : T4} (h : isPlain x k = .ok v a t) : okC0 (cv x) = true ∧ k = .ok v a t := by
  cases x <;> first | exact ⟨rfl, h⟩ | cases h
theorem plains_ok {k : R} {v : V} {a : Ad} {t : T4} : ∀ {l : V}, plains l k = .ok v a t → (cvL l).all okC0 = true ∧ k = .ok v a t := by
  intro l
  induction l with
  | cons x r _ ih =>
    intro h
    obtain ⟨h1, h2⟩ := isPlain_ok (show isPlain x (plains r k) = _ from h)
    obtain ⟨h3, h4⟩ := ih h2
    exact ⟨by show (cv x :: cvL r).all okC0 = true; simp [h1, h3], h4⟩
  | _ => intro h; exact ⟨rfl, h⟩
theorem onR_ok {r : R} {k : V → T4 → R} {v : V} {a : Ad} {t : T4} (h : onR r k = .ok v a t) : ∃ v1 a1 t1, r = .ok v1 a1 t1 ∧ v1 ≠ .sk ∧ k v1 t1 = .ok v a t := by
  cases r with
  | bad => cases h
  | ok v1 a1 t1 => exact ⟨v1, a1, t1, rfl, nsk_ok h⟩
theorem onBk_ok {x : Bk} {ko kg : V → R} {v : V} {a : Ad} {t : T4} (h : onBk x ko kg = .ok v a t) : (∃ l, x = .own l ∧ ko l = .ok v a t) ∨ ∃ l, x = .grow l ∧ kg l = .ok v a t := by
  cases x <;> first | exact .inl ⟨_, rfl, h⟩ | exact .inr ⟨_, rfl, h⟩ | cases h
theorem gT_get (e : Ad) : cvB (get e gT) = if num e < 2 then some dead else none := by
  unfold gT
  have h0 : num (adOf 0) = 0 := num_adOf (by omega)
  have h1 : num (adOf 1) = 1 := num_adOf (by omega)
  by_cases e0 : e = adOf 0
  · subst e0; rw [get_put, h0]; rfl
  · rw [get_put_ne e0]
    by_cases e1 : e = adOf 1
    · subst e1; rw [get_put, h1]; rfl
    · rw [get_put_ne e1, get_z, if_neg (fun hlt => by
        have : num e = 0 ∨ num e = 1 := by omega
        rcases this with q | q
        · exact e0 (num_inj (q.trans h0.symm))
        · exact e1 (num_inj (q.trans h1.symm)))]
      rfl
theorem gT_HR : HR gA gT 2 (deads 2) := by
  refine ⟨by decide, fun e => ?_, fun b hb => ?_⟩
  · rw [deads_get, gT_get]
  · rw [deads_get, if_neg (by omega)]
theorem gT_HR1 {B : Bk} {C : Blk} (hB : cvB B = some C) : HR gA1 (put gA B gT) 3 ((deads 2).set 2 C) := by
  have h2 : num gA = 2 := by decide
  refine ⟨by decide, fun e => ?_, fun b hb => ?_⟩
  · rw [H.get_set]
    by_cases he : e = gA
    · subst he; rw [if_pos h2, get_put, hB]
    · rw [if_neg (fun q => he (num_inj (q.trans h2.symm))), get_put_ne he, deads_get, gT_get]
  · rw [H.get_set_ne _ _ (by omega), deads_get, if_neg (by omega)]
theorem gcVN_rel {v : V} {w : Value} (h : VRel v w) : VRel (gcVN v) (gcV 2 2 (if w.cells.toList.all okC0 = true then w else undef)) := by
  cases v <;> first | exact .inl rfl | skip
  rw [h.got (by simp)]
  exact .inr rfl
theorem gcVK_rel {d : Ad} {v : V} {w : Value} (h : VRel v w) : VRel (gcVK d v) (gcV 2 (num d) w) := by
  cases v with
  | s a o len cap =>
    rw [h.got (by simp)]
    show VRel (@Bool.rec (fun _ => V) .u (@Bool.rec (fun _ => V) .u (.s d 0 len cap) (Nat.beq o 0)) (Nat.beq (num a) 2)) _
    cases h1 : Nat.beq (num a) 2 with
    | false => exact .inl rfl
    | true =>
      cases h2 : Nat.beq o 0 with
      | false => exact .inl rfl
      | true =>
        have h1 := Nat.eq_of_beq_eq_true h1
        have h2 := Nat.eq_of_beq_eq_true h2
        subst h2
        refine .inr ?_
        show Value.slice (some ⟨num d, 0, none⟩) len cap = (if num a = 2 then Value.slice (some ⟨num d, 0, none⟩) len cap else undef)
        rw [if_pos h1]
  | ns => rw [h.got (by simp)]; exact .inr rfl
  | _ => exact .inl rfl

theorem kGc_ref {fl : KF} {m : List Value → M Value} (hc : CRef fl m) {x : V} {w : Value} (hx : VRel x w) {rest : List V} {ws : List Value} (hr : VL' rest ws) (hp : ws.all plainA = true) {K : V → St} {K' : Value → M Value} (hK : KR K K') :
    Ref (kGc fl x rest K) (bnd (gcM 2 m (w :: ws)) K') := by
  refine Ref.step hK fun a t n h hh v a' t' e => ?_
  rcases onSl_ok e with ⟨rfl, e⟩ | ⟨d, o, len, cap, rfl, e⟩
  · rw [hx.got (by simp)]
    obtain ⟨v1, a1, t1, e1, hsk, e⟩ := onR_ok e
    obtain ⟨w1, n1, h1, f1, f2, f3⟩ := hc _ _ fin _ (.cons (.of .ns) hr) fin_ref gA gT 2 (deads 2) gT_HR _ _ _ e1
    replace f2 := f2.rel hsk
    rw [bnd_ret] at f1
    refine ⟨gcVN v1, _, a, t, n, h, ?_, gcVN_rel f2, hh, e⟩
    show gcF 2 m (.slice none 0 0 :: ws) n h = _
    unfold gcF
    simp only [hp, if_true]
    have f1 : (m (.slice none 0 0 :: ws)).run 2 (deads 2) = some (w1, n1, h1) := f1
    simp only [f1]
  · rw [hx.got (by simp)]
    rcases ifR_ok e with ⟨b0, e'⟩ | ⟨_, e'⟩
    case inr => cases e'
    rcases ifR_ok e' with ⟨b2, ee⟩ | ⟨_, ee⟩
    case inr => cases ee
    clear e e'
    have b0 := Nat.eq_of_beq_eq_true b0
    have b2 := Nat.le_of_ble_eq_true b2
    subst b0
    have key : ∀ (B : V → Bk) (kd : Kind), (kd = .own ∨ kd = .grow) → (∀ l, cvB (B l) = some ⟨cvL l, kd⟩) → ∀ (l l' : V) (v1 : V) (a1 : Ad) (t1 : T4), v1 ≠ .sk → get d t = B l → (cvL l).all okC0 = true → fl (.s gA 0 len cap :: rest) fin gA1 (put gA (B l) gT) = .ok v1 a1 t1 → get gA t1 = B l' → (cvL l').all okC0 = true →
        ∃ w0, gcM 2 m (cv (.s d 0 len cap) :: ws) n h = some (w0, n, h.set (num d) ⟨cvL l', kd⟩) ∧ VRel (gcVK d v1) w0 ∧ HR a (put d (B l') t) n (h.set (num d) ⟨cvL l', kd⟩) := by
      intro B kd hkd hB l l' v1 a1 t1 hsk hg hl e1 hg1 hl'
      obtain ⟨w1, n1, h1, f1, f2, f3⟩ := hc _ _ fin _ (.cons (.of (.s gA 0 len cap)) hr) fin_ref gA1 (put gA (B l) gT) 3 _ (gT_HR1 (hB l)) _ _ _ e1
      replace f2 := f2.rel hsk
      replace f3 := f3.rel hsk
      rw [bnd_ret] at f1
      have f1 : (m (.slice (some ⟨2, 0, none⟩) len cap :: ws)).run (2 + 1) ((deads 2).set 2 ⟨cvL l, kd⟩) = some (w1, n1, h1) := f1
      have hd : h.get (num d) = some ⟨cvL l, kd⟩ := by rw [hh.blk, hg, hB]
      have hS : h1.get 2 = some ⟨cvL l', kd⟩ := by
        have := f3.blk gA
        rw [hg1, hB] at this
        exact this
      refine ⟨gcV 2 (num d) w1, ?_, gcVK_rel f2, hh.put (by rw [hd]; rfl) (hB l')⟩
      show gcF 2 m (.slice (some ⟨num d, 0, none⟩) len cap :: ws) n h = _
      unfold gcF
      simp only [hd]
      rw [if_pos ⟨hkd, hl, hp, b2⟩]
      simp only [f1, hS]
      rw [if_pos ⟨trivial, hl'⟩]
    rcases onBk_ok ee with ⟨l, hg, e2⟩ | ⟨l, hg, e2⟩
    · obtain ⟨hl, e3⟩ := plains_ok e2
      obtain ⟨v1, a1, t1, e1, hsk, e4⟩ := onR_ok e3
      rcases onBk_ok e4 with ⟨l', hg1, e5⟩ | ⟨_, _, e5⟩
      case inr => cases e5
      obtain ⟨hl', e6⟩ := plains_ok e5
      obtain ⟨w0, f1, f2, f3⟩ := key .own .own (.inl rfl) (fun _ => rfl) l l' v1 a1 t1 hsk hg hl e1 hg1 hl'
      exact ⟨_, _, a, _, n, _, f1, f2, f3, e6⟩
    · obtain ⟨hl, e3⟩ := plains_ok e2
      obtain ⟨v1, a1, t1, e1, hsk, e4⟩ := onR_ok e3
      rcases onBk_ok e4 with ⟨_, _, e5⟩ | ⟨l', hg1, e5⟩
      · cases e5
      obtain ⟨hl', e6⟩ := plains_ok e5
      obtain ⟨w0, f1, f2, f3⟩ := key .grow .grow (.inr rfl) (fun _ => rfl) l l' v1 a1 t1 hsk hg hl e1 hg1 hl'
      exact ⟨_, _, a, _, n, _, f1, f2, f3, e6⟩
end Go.Fk
end
section
set_option linter.unusedVariables false
namespace Go.Fk
open Go Go.Fw

theorem notIn_ok {x : Nat} {k : R} {v : V} {a : Ad} {t : T4} : ∀ {l : List Nat}, notIn x l k = .ok v a t → x ∉ l ∧ k = .ok v a t
  | [], h => ⟨by simp, h⟩
  | y :: l, h => by
    rcases ifR_ok (show ifR (Nat.beq x y) .bad (notIn x l k) = _ from h) with ⟨_, e⟩ | ⟨b, e⟩
    · cases e
    · obtain ⟨h1, h2⟩ := notIn_ok e
      have := Nat.ne_of_beq_eq_false b
      exact ⟨by simp [this, h1], h2⟩
/-- What the check of the entries tells. -/
theorem bornK_ok {cl : Nat} {k : R} {v : V} {a : Ad} {t : T4} : ∀ (es : V) (lo : Nat) (l : List Nat), bornK cl es 0 lo l k = .ok v a t → k = .ok v a t ∧ ∃ E, decE (cvL es) = some E ∧
    (∀ p, p ∈ E → lo ≤ p.2.2 ∧ p.2.2 < cl) ∧ (borns E).Nodup ∧ (∀ p, p ∈ E → blkOf p.2.1 ∉ l) ∧ (E.map fun p => blkOf p.2.1).Nodup := by
  have key : ∀ (N : Nat) (es : V) (lo : Nat) (l : List Nat), SizeOf.sizeOf es < N → bornK cl es 0 lo l k = .ok v a t → k = .ok v a t ∧ ∃ E, decE (cvL es) = some E ∧
      (∀ p, p ∈ E → lo ≤ p.2.2 ∧ p.2.2 < cl) ∧ (borns E).Nodup ∧ (∀ p, p ∈ E → blkOf p.2.1 ∉ l) ∧ (E.map fun p => blkOf p.2.1).Nodup := by
    intro N
    induction N with
    | zero => intro es lo l h; omega
    | succ N ih =>
      intro es lo l hN h
      have nil : cvL es = [] → k = .ok v a t → k = .ok v a t ∧ ∃ E, decE (cvL es) = some E ∧ (∀ p, p ∈ E → lo ≤ p.2.2 ∧ p.2.2 < cl) ∧ (borns E).Nodup ∧ (∀ p, p ∈ E → blkOf p.2.1 ∉ l) ∧ (E.map fun p => blkOf p.2.1).Nodup := by
        intro he hk
        refine ⟨hk, [], by rw [he]; rfl, ?_⟩
        exact ⟨(fun p hp => nomatch hp), List.nodup_nil, (fun p hp => nomatch hp), List.nodup_nil⟩
      cases es with
      | cons x r =>
        obtain ⟨y, r2, rfl, h⟩ := on_cons_ok h
        obtain ⟨tt, r3, rfl, h⟩ := on_cons_ok h
        obtain ⟨d, o, len, cap, rfl, h⟩ := on_s_ok h
        rcases ifR_ok h with ⟨b0, h⟩ | ⟨_, h⟩
        case inr => cases h
        obtain ⟨hni, h⟩ := notIn_ok h
        obtain ⟨z, rfl, h⟩ := on_i_ok h
        cases z with
        | negSucc _ => cases h
        | ofNat s =>
        rcases ifR_ok h with ⟨b1, h⟩ | ⟨_, h⟩
        case inr => cases h
        rcases ifR_ok h with ⟨b2, h⟩ | ⟨_, h⟩
        case inr => cases h
        have b1 := Nat.le_of_ble_eq_true b1
        have b2 : s < cl := blt_lt b2
        obtain ⟨hk, E3, hd, g1, g2, g3, g4⟩ := ih r3 (Nat.succ s) (num d :: l) (by simp at hN; omega) h
        refine ⟨hk, (cv x, cv (.s d o len cap), s) :: E3, ?_, ?_⟩
        · show (decE (cvL r3)).map (fun l => (cv x, cv (.s d o len cap), s) :: l) = _
          rw [hd]
          rfl
        · skip
          have hblk : blkOf (cv (.s d o len cap)) = num d := rfl
          refine ⟨fun p hp => ?_, ?_, fun p hp => ?_, ?_⟩
          · rcases List.mem_cons.1 hp with rfl | hp
            · exact ⟨b1, b2⟩
            · have := g1 p hp
              exact ⟨by omega, this.2⟩
          · show (s :: borns E3).Nodup
            rw [List.nodup_cons]
            refine ⟨fun hm => ?_, g2⟩
            obtain ⟨p, hp, hps⟩ := List.mem_map.1 hm
            have := (g1 p hp).1
            omega
          · rcases List.mem_cons.1 hp with rfl | hp
            · exact hni
            · exact fun hm => g3 p hp (List.mem_cons_of_mem _ hm)
          · rw [List.map_cons, List.nodup_cons]
            refine ⟨fun hm => ?_, g4⟩
            obtain ⟨p, hp, hps⟩ := List.mem_map.1 hm
            exact g3 p hp (by rw [hps]; exact List.mem_cons_self ..)
      | _ => exact nil rfl h
  exact fun es lo l h => key _ es lo l (Nat.lt_succ_self _) h

/-- The rounds, in the order in which the entries lie. -/
theorem mkGo_ref {srt cmp : V → (V → St) → St} {S C : List Value → M Value} {z : Value} (hS : ∀ v w K K', VRel v w → KR K K' → Ref (srt v K) (bnd (S [w, z]) K')) (hC : ∀ v w K K', VRel v w → KR K K' → Ref (cmp v K) (bnd (C [w]) K')) :
    ∀ (N : Nat) (es : V) (n : Nat) (K : V → Nat → St) (K' : List (Value × Value × Nat) × Nat → M Value), SizeOf.sizeOf es < N → (∀ es' q, cvL es' = flatE q.1 → Ref (K es' q.2) (K' q)) → ∀ E, decE (cvL es) = some E → Ref (mkGo srt cmp es 0 n K) (bnd (goM S C z E n) K') := by
  intro N
  induction N with
  | zero => intro es n K K' h; omega
  | succ N ih =>
    intro es n K K' hN hK E hE
    have nil : cvL es = [] → Ref (K .nil n) (bnd (goM S C z E n) K') := by
      intro he
      rw [he] at hE
      cases hE
      exact hK .nil ([], n) rfl
    cases es with
    | cons x r =>
      intro a t n0 h hr v a' t' e
      obtain ⟨y, r2, rfl, e⟩ := on_cons_ok e
      obtain ⟨tt, r3, rfl, e⟩ := on_cons_ok e
      have hshape : ∃ s E3, cv tt = .int .i64 (Int.ofNat s) ∧ decE (cvL r3) = some E3 ∧ E = (cv x, cv y, s) :: E3 := by
        replace hE : decE (cv x :: cv y :: cv tt :: cvL r3) = some E := hE
        unfold decE at hE
        split at hE
        · rename_i heq; cases heq
        · rename_i k' v' s l' heq
          simp only [List.cons.injEq] at heq
          obtain ⟨h1, h2, h3, h4⟩ := heq
          cases hd : decE l' with
          | none => rw [hd] at hE; cases hE
          | some E3 => rw [hd] at hE; cases hE; exact ⟨s, E3, h3, by rw [h4]; exact hd, by rw [h1, h2]⟩
        · cases hE
      obtain ⟨s, E3, hs, hd, rfl⟩ := hshape
      show ∃ w n' h', bnd (goM S C z ((cv x, cv y, s) :: E3) n) K' n0 h = some (w, n', h') ∧ VF v w ∧ HF v a' t' n' h'
      have hg : bnd (goM S C z ((cv x, cv y, s) :: E3) n) K' = bnd (S [cv y, z]) fun _ => bnd (bnd (C [cv y]) fun v' => bnd (new [] .dead) fun _ => match cv y, v' with
          | .slice (some ⟨b, 0, none⟩) _ _, .slice (some ⟨b', 0, none⟩) l _ => if b' = b ∧ n + l < 4611686018427387904 then bnd (goM S C z E3 (n + l)) fun q => ret ((cv x, v', s) :: q.1, q.2) else fail
          | _, _ => fail) K' := by
        show bnd (bnd (S [cv y, z]) _) K' = _
        (rw [bnd_assoc]) <;> rfl
      rw [hg]
      refine hS y (cv y) _ _ (.of y) ?_ a t n0 h hr v a' t' e
      intro v1 w1 _
      rw [bnd_assoc]
      refine hC y (cv y) _ _ (.of y) ?_
      intro v2 w2 h2 a t n0 h hr v a' t' e
      obtain ⟨b, hb, e⟩ := inc_ok e
      obtain ⟨d, o, len, cap, rfl, e⟩ := on_s_ok e
      rcases ifR_ok e with ⟨b0, e⟩ | ⟨_, e⟩
      case inr => cases e
      obtain ⟨d', o', len', cap', rfl, e⟩ := on_s_ok e
      rcases ifR_ok e with ⟨b1, e⟩ | ⟨_, e⟩
      case inr => cases e
      rcases ifR_ok e with ⟨b2, e⟩ | ⟨_, e⟩
      case inr => cases e
      rcases ifR_ok e with ⟨b3, e⟩ | ⟨_, e⟩
      case inr => cases e
      have b0 := Nat.eq_of_beq_eq_true b0
      have b1 := Nat.eq_of_beq_eq_true b1
      have b2 := Nat.eq_of_beq_eq_true b2
      have b3 : n + len' < 4611686018427387904 := blt_lt b3
      subst b0 b1
      rw [h2.got (by simp)]
      have hr2 : HR b (put a (.dead .nil) t) (n0 + 1) (h.set n0 ⟨[], .dead⟩) := hr.new hb (B := .dead .nil) rfl
      have := ih r3 (n + len') (fun es' n' => K (.cons x (.cons (.s d' 0 len' cap') (.cons tt es'))) n') (fun q => K' ((cv x, cv (.s d' 0 len' cap'), s) :: q.1, q.2)) (by simp at hN; omega) (fun es' q hq => hK _ (_ :: q.1, q.2) (by
        show cv x :: cv (.s d' 0 len' cap') :: cv tt :: cvL es' = _
        rw [hs, hq]
        rfl)) E3 hd
      obtain ⟨w3, n3, h3, g1, g2, g3⟩ := this b _ _ _ hr2 v a' t' e
      refine ⟨w3, n3, h3, ?_, g2, g3⟩
      show bnd (bnd (new [] .dead) _) K' n0 h = _
      rw [bnd_assoc, bnd_of (new_of (hr.fresh n0 (Nat.le_refl _)) rfl)]
      show bnd (if num d' = num d ∧ n + len' < 4611686018427387904 then bnd (goM S C z E3 (n + len')) fun q => ret ((cv x, cv (.s d' 0 len' cap'), s) :: q.1, q.2) else fail) K' (n0 + 1) _ = _
      rw [if_pos ⟨b2, b3⟩, bnd_assoc]
      exact g1
    | _ => exact nil rfl

/-- THE LOOP. -/
theorem kMkLoop_ref {srt cmp : V → (V → St) → St} {S C : List Value → M Value} {z : Value} (hS : ∀ v w K K', VRel v w → KR K K' → Ref (srt v K) (bnd (S [w, z]) K')) (hC : ∀ v w K K', VRel v w → KR K K' → Ref (cmp v K) (bnd (C [w]) K'))
    {F : Nat} {m : V} {w : Value} (hm : VRel m w) {k : St} {k' : M Value} (hk : Ref k k') : Ref (kMkLoop srt cmp F m k) (bnd (mkM S C z w) fun _ => k') := by
  intro a t n h hr v a' t' e
  obtain ⟨mb, o, rfl, e⟩ := on_p_ok e
  rcases ifR_ok e with ⟨b0, e⟩ | ⟨_, e⟩
  case inr => cases e
  have b0 := Nat.eq_of_beq_eq_true b0
  subst b0
  obtain ⟨cs, kd, hcs, hkd, e⟩ := live_ok e
  obtain ⟨g, hg, e⟩ := nthK_ok e
  obtain ⟨gb, o2, rfl, e⟩ := on_p_ok e
  rcases ifR_ok e with ⟨b1, e⟩ | ⟨_, e⟩
  case inr => cases e
  have b1 := Nat.eq_of_beq_eq_true b1
  subst b1
  rcases ifR_ok e with ⟨_, e⟩ | ⟨b2, e⟩
  · cases e
  have b2 := Nat.ne_of_beq_eq_false b2
  obtain ⟨gc, gkd, hgc, hgkd, e⟩ := live_ok e
  obtain ⟨mv, hmv, e⟩ := nthK_ok e
  obtain ⟨d, rfl, q1⟩ := on_m_ok e
  obtain ⟨nv, hnv, q2⟩ := nthK_ok q1
  clear e q1
  rcases on_n_ok q2 with ⟨tot, rfl, q3⟩ | q3
  case inr => cases q3
  clear q2
  obtain ⟨r, hmd, q4⟩ := mpK_ok hr q3
  obtain ⟨w1, r1, rfl, q5⟩ := on_cons_ok q4
  obtain ⟨sz, rfl, q6⟩ := on_w_ok q5
  obtain ⟨w2, es, rfl, q7⟩ := on_cons_ok q6
  obtain ⟨cl, rfl, q8⟩ := on_w_ok q7
  rcases ifR_ok q8 with ⟨b3, q9⟩ | ⟨_, q9⟩
  case inr => cases q9
  rcases ifR_ok q9 with ⟨b4, q10⟩ | ⟨_, q10⟩
  case inr => cases q10
  have b3 := Nat.eq_of_beq_eq_true b3
  have b4 : tot < 4611686018427387904 := blt_lt b4
  subst b3
  obtain ⟨q11, E, hE, g1, g2, _, g4⟩ := bornK_ok es 0 [] q10
  obtain ⟨b, hb, q12⟩ := inc_ok q11
  have hx : h.get (num mb) = some ⟨cvL cs, kd⟩ := hr.got hcs
  have hgg : h.get (num gb) = some ⟨cvL gc, gkd⟩ := hr.got hgc
  rw [hm.got (by simp)]
  have hr2 : HR b (put a (.dead .nil) t) (n + 1) (h.set n ⟨[], .dead⟩) := hr.new hb (B := .dead .nil) rfl
  have hgo := mkGo_ref hS hC _ es tot (fun es' n' => fun a t => mpK d t fun _ => mine (get gb t) fun f gc2 => setK (.i (.ofNat n')) 1 gc2 fun gc3 =>
        k a (put gb (f gc3) (put d (.dead (.cons .nf (.cons (.w 5) (.cons (.w cl) es')))) t)))
    (fun q => bnd (bnd (mpSet (num d) (.int .u64 (5 : Nat) :: .int .u64 (cl : Nat) :: flatE q.1)) fun _ => wr1 (num gb) 1 (.int .i64 (q.2 : Nat))) fun _ => k') (Nat.lt_succ_self _) ?_ E hE
  · obtain ⟨w3, n3, h3, f1, f2, f3⟩ := hgo b _ _ _ hr2 v a' t' q12
    refine ⟨w3, n3, h3, ?_, f2, f3⟩
    show bnd (bnd (rd (num mb) 3) _) _ n h = _
    rw [bnd_assoc, bnd_of (rd_of hx hkd hg)]
    show bnd (bnd (rd (num gb) 0) _) _ n h = _
    rw [bnd_assoc, bnd_of (rd_of hgg hgkd hmv)]
    show bnd (bnd (rd (num gb) 1) _) _ n h = _
    rw [bnd_assoc, bnd_of (rd_of hgg hgkd hnv)]
    show bnd (bnd (mpGet (num d)) _) _ n h = _
    rw [bnd_assoc, bnd_of (mpGet_of hmd)]
    show bnd (match decE (cvL es) with
          | some E => if 5 = 5 ∧ E.all (fun p => decide (p.2.2 < cl)) = true ∧ (borns E).Nodup ∧ (E.map fun p => blkOf p.2.1).Nodup ∧ tot < 4611686018427387904 ∧ num gb ≠ num mb then
              bnd (new [] .dead) fun _ => bnd (goM S C z E tot) fun q => bnd (mpSet (num d) (.int .u64 (5 : Nat) :: .int .u64 (cl : Nat) :: flatE q.1)) fun _ => wr1 (num gb) 1 (.int .i64 (q.2 : Nat))
            else fail
          | none => fail) (fun _ => k') n h = _
    rw [hE]
    dsimp only
    rw [if_pos ⟨rfl, List.all_eq_true.2 (fun p hp => decide_eq_true (g1 p hp).2), g2, g4, b4, b2⟩, bnd_assoc, bnd_of (new_of (hr.fresh n (Nat.le_refl _)) rfl), bnd_assoc]
    exact f1
  · intro es' q hq a t n h hr v a' t' e
    obtain ⟨r0, hd0, e⟩ := mpK_ok hr e
    obtain ⟨l, f, kd2, hkd2, hl, hf, e⟩ := mine_ok e
    obtain ⟨l', hl', hlt, e⟩ := setK_ok e
    have hg3 : h.get (num gb) = some ⟨cvL l, kd2⟩ := hr.got hl
    have hne : num gb ≠ num d := by
      intro q9
      rw [q9, hd0] at hg3
      simp only [Option.some.injEq, Blk.mk.injEq] at hg3
      rcases hkd2 with q8 | q8 <;> rw [q8] at hg3 <;> cases hg3.2
    have hr1 := hr.put (d := d) (B := .dead (.cons .nf (.cons (.w 5) (.cons (.w cl) es')))) (C := ⟨.nilFunc :: .int .u64 (5 : Nat) :: .int .u64 (cl : Nat) :: flatE q.1, .dead⟩) (by rw [hd0]; rfl) (by
      show some (Blk.mk (.nilFunc :: .int .u64 (5 : Nat) :: .int .u64 (cl : Nat) :: cvL es') .dead) = _
      rw [hq])
    have hr2 := hr1.put (d := gb) (B := f l') (C := ⟨cvL l', kd2⟩) (by rw [H.get_set_ne _ _ hne, hg3]; rfl) (hf l')
    obtain ⟨w, n', h', e1, e2, e3⟩ := hk _ _ _ _ hr2 _ _ _ e
    refine ⟨w, n', h', ?_, e2, e3⟩
    rw [bnd_assoc, bnd_of (mpSet_of hd0)]
    have hg4 : (h.set (num d) ⟨.nilFunc :: .int .u64 (5 : Nat) :: .int .u64 (cl : Nat) :: flatE q.1, .dead⟩).get (num gb) = some ⟨cvL l, kd2⟩ := by rw [H.get_set_ne _ _ hne]; exact hg3
    have hcv : cv (.i (.ofNat q.2)) = .int .i64 (q.2 : Nat) := rfl
    rw [hl', hcv] at e1
    rw [bnd_of (wr1_of hg4 hkd2 rfl hlt)]
    exact e1
end Go.Fk
end
section
set_option linter.unusedVariables false
namespace Go.Fk
open Go Go.Fw

/-! ## All orders of a list -/

noncomputable def insA {α : Type} (x : α) (l : List α) : List (List α) := @List.rec α (fun _ => List (List α)) [[x]] (fun y r ih => (x :: y :: r) :: ih.map (y :: ·)) l
noncomputable def prm {α : Type} (l : List α) : List (List α) := @List.rec α (fun _ => List (List α)) [[]] (fun x _ ih => (ih.map (insA x)).flatten) l
theorem insA_mem {α : Type} {x : α} : ∀ {l r : List α}, (x :: (l ++ r)) = x :: (l ++ r) → l ++ x :: r ∈ insA x (l ++ r)
  | [], [], _ => by simp [insA]
  | [], y :: r, _ => List.mem_cons_self ..
  | y :: l, r, _ => by
    show y :: (l ++ x :: r) ∈ (x :: y :: (l ++ r)) :: (insA x (l ++ r)).map (y :: ·)
    exact List.mem_cons_of_mem _ (List.mem_map.2 ⟨_, insA_mem (l := l) rfl, rfl⟩)
theorem prm_mem {α : Type} : ∀ {l l' : List α}, List.Perm l' l → l' ∈ prm l
  | [], l', h => by rw [List.perm_nil.1 h]; exact List.mem_singleton.2 rfl
  | x :: l, l', h => by
    have hx : x ∈ l' := h.mem_iff.2 (List.mem_cons_self ..)
    obtain ⟨s, t, rfl⟩ := List.append_of_mem hx
    have h2 : List.Perm (s ++ t) l := by
      have h3 : List.Perm (x :: (s ++ t)) (x :: l) := List.perm_middle.symm.trans h
      exact h3.cons_inv
    show s ++ x :: t ∈ ((prm l).map (insA x)).flatten
    exact List.mem_flatten.2 ⟨insA x (s ++ t), List.mem_map.2 ⟨_, prm_mem h2, rfl⟩, insA_mem rfl⟩
theorem insA_map {α β : Type} (f : α → β) (x : α) : ∀ l : List α, insA (f x) (l.map f) = (insA x l).map (List.map f)
  | [] => rfl
  | y :: r => by
    show (f x :: f y :: r.map f) :: (insA (f x) (r.map f)).map (f y :: ·) = (x :: y :: r).map f :: ((insA x r).map (y :: ·)).map (List.map f)
    rw [insA_map f x r, List.map_map, List.map_map]
    rfl
theorem prm_map {α β : Type} (f : α → β) : ∀ l : List α, prm (l.map f) = (prm l).map (List.map f)
  | [] => rfl
  | x :: l => by
    show ((prm (l.map f)).map (insA (f x))).flatten = (((prm l).map (insA x)).flatten).map (List.map f)
    rw [prm_map f l, List.map_map, List.map_flatten, List.map_map]
    congr 1
    exact List.map_congr_left fun q _ => insA_map f x q

/-! ## Entries, keys -/

noncomputable def riseC (cl : Nat) (es : V) : Nat → Nat → R → R := @V.rec (fun _ => Nat → Nat → R → R) (fun ph lo k => @Nat.rec (fun _ => R) k (fun _ _ => .bad) ph) (fun ph lo k => @Nat.rec (fun _ => R) k (fun _ _ => .bad) ph) (fun _ => fun ph lo k => @Nat.rec (fun _ => R) k (fun _ _ => .bad) ph) (fun _ => fun ph lo k => @Nat.rec (fun _ => R) k (fun _ _ => .bad) ph) (fun _ _ => fun ph lo k => @Nat.rec (fun _ => R) k (fun _ _ => .bad) ph) (fun _ => fun ph lo k => @Nat.rec (fun _ => R) k (fun _ _ => .bad) ph) (fun _ _ => fun ph lo k => @Nat.rec (fun _ => R) k (fun _ _ => .bad) ph) (fun ph lo k => @Nat.rec (fun _ => R) k (fun _ _ => .bad) ph) (fun _ _ _ _ => fun ph lo k => @Nat.rec (fun _ => R) k (fun _ _ => .bad) ph) (fun ph lo k => @Nat.rec (fun _ => R) k (fun _ _ => .bad) ph) (fun ph lo k => @Nat.rec (fun _ => R) k (fun _ _ => .bad) ph) (fun x r _ ih ph lo k => @Nat.rec (fun _ => R) (on_cons r fun v r2 => on_cons r2 fun tt _ => on_i tt fun z => @Int.rec (fun _ => R) (fun t => ifR (Nat.ble lo t) (ifR (Nat.blt t cl) (ih 2 (Nat.succ t) k) .bad) .bad) (fun _ => .bad) z) (fun q _ => ih q lo k) ph) (fun _ _ => fun ph lo k => @Nat.rec (fun _ => R) k (fun _ _ => .bad) ph) (fun _ _ => fun ph lo k => @Nat.rec (fun _ => R) k (fun _ _ => .bad) ph) (fun _ => fun ph lo k => @Nat.rec (fun _ => R) k (fun _ _ => .bad) ph) (fun ph lo k => @Nat.rec (fun _ => R) k (fun _ _ => .bad) ph) (fun _ _ _ => fun ph lo k => @Nat.rec (fun _ => R) k (fun _ _ => .bad) ph) (fun ph lo k => @Nat.rec (fun _ => R) k (fun _ _ => .bad) ph) (fun _ _ _ => fun ph lo k => @Nat.rec (fun _ => R) k (fun _ _ => .bad) ph) (fun ph lo k => @Nat.rec (fun _ => R) k (fun _ _ => .bad) ph) (fun _ => fun ph lo k => @Nat.rec (fun _ => R) k (fun _ _ => .bad) ph) es
noncomputable def keysL (es : V) : Nat → List V := @V.rec (fun _ => Nat → List V) (fun _ => []) (fun _ => []) (fun _ => fun _ => []) (fun _ => fun _ => []) (fun _ _ => fun _ => []) (fun _ => fun _ => []) (fun _ _ => fun _ => []) (fun _ => []) (fun _ _ _ _ => fun _ => []) (fun _ => []) (fun _ => []) (fun x r _ ih ph => @Nat.rec (fun _ => List V) (x :: ih 2) (fun q _ => ih q) ph) (fun _ _ => fun _ => []) (fun _ _ => fun _ => []) (fun _ => fun _ => []) (fun _ => []) (fun _ _ _ => fun _ => []) (fun _ => []) (fun _ _ _ => fun _ => []) (fun _ => []) (fun _ => fun _ => []) es
noncomputable def cellsV (x : V) : V := @V.rec (fun _ => V) (.nil) (.nil) (fun _ => .nil) (fun _ => .nil) (fun _ _ => .nil) (fun _ => .nil) (fun _ _ => .nil) (.nil) (fun _ _ _ _ => .nil) (.nil) (.nil) (fun _ _ _ _ => .nil) (fun l _ => l) (fun _ _ => .nil) (fun _ => .nil) (.nil) (fun _ _ _ => .nil) (.nil) (fun _ _ _ => .nil) (.nil) (fun _ => .nil) x
noncomputable def kflat (l : List V) : V := @List.rec V (fun _ => V) .nil (fun x _ ih => app (cellsV x) ih) l
theorem cellsV_eq (x : V) : cvL (cellsV x) = kcells (cv x) := by cases x <;> rfl
theorem kflat_eq : ∀ l : List V, cvL (kflat l) = Fw.flatK (l.map cv)
  | [] => rfl
  | x :: l => by
    show cvL (app (cellsV x) (kflat l)) = kcells (cv x) ++ Fw.flatK (l.map cv)
    rw [app_eq, cellsV_eq, kflat_eq l]

theorem riseC_ok {cl : Nat} {k : R} {v : V} {a : Ad} {t : T4} : ∀ (N : Nat) (es : V) (lo : Nat), SizeOf.sizeOf es < N → riseC cl es 0 lo k = .ok v a t →
    k = .ok v a t ∧ ∃ E, decE (cvL es) = some E ∧ (∀ p, p ∈ E → lo ≤ p.2.2 ∧ p.2.2 < cl) ∧ (borns E).Nodup ∧ E.map (·.1) = (keysL es 0).map cv ∧ lenV es = 3 * E.length := by
  intro N
  induction N with
  | zero => intro es lo h; omega
  | succ N ih =>
    intro es lo hN h
    have nil : cvL es = [] → keysL es 0 = [] → lenV es = 0 → k = .ok v a t → k = .ok v a t ∧ ∃ E, decE (cvL es) = some E ∧ (∀ p, p ∈ E → lo ≤ p.2.2 ∧ p.2.2 < cl) ∧ (borns E).Nodup ∧ E.map (·.1) = (keysL es 0).map cv ∧ lenV es = 3 * E.length := by
      intro he h1 h2 hk
      exact ⟨hk, [], by rw [he]; rfl, (fun p hp => nomatch hp), List.nodup_nil, by rw [h1]; rfl, h2⟩
    cases es with
    | cons x r =>
      obtain ⟨y, r2, rfl, h⟩ := on_cons_ok h
      obtain ⟨tt, r3, rfl, h⟩ := on_cons_ok h
      obtain ⟨z, rfl, h⟩ := on_i_ok h
      cases z with
      | negSucc _ => cases h
      | ofNat s =>
      rcases ifR_ok h with ⟨b1, h⟩ | ⟨_, h⟩
      case inr => cases h
      rcases ifR_ok h with ⟨b2, h⟩ | ⟨_, h⟩
      case inr => cases h
      have b1 : lo ≤ s := Nat.le_of_ble_eq_true b1
      have b2 : s < cl := blt_lt b2
      obtain ⟨hk, E, h3, h4, h5, h6, h7⟩ := ih r3 (Nat.succ s) (by simp at hN; omega) h
      refine ⟨hk, _, decE_cons h3, fun p hp => ?_, ?_, ?_, ?_⟩
      · rcases List.mem_cons.1 hp with rfl | hp
        · exact ⟨b1, b2⟩
        · have := h4 p hp
          exact ⟨by omega, this.2⟩
      · show (s :: borns E).Nodup
        rw [List.nodup_cons]
        refine ⟨fun hm => ?_, h5⟩
        obtain ⟨p, hp, hps⟩ := List.mem_map.1 hm
        have := h4 p hp
        have hps : p.2.2 = s := hps
        omega
      · show cv x :: E.map (·.1) = (x :: keysL r3 0).map cv
        rw [h6]; rfl
      · show Nat.succ (Nat.succ (Nat.succ (lenV r3))) = 3 * (E.length + 1)
        omega
    | _ => exact nil rfl rfl rfl h

/-! ## Blocks that nobody looks at -/

noncomputable def newsK (j : Nat) (k : St) : St := @Nat.rec (fun _ => St) k (fun _ ih => fun a t => inc ih a (put a (.dead .nil) t)) j
theorem newsK_ref {k : St} {m : M Value} (hk : Ref k m) : ∀ j, Ref (newsK j k) (bnd (newsD j) fun _ => m)
  | 0 => hk
  | j + 1 => by
    intro a t n h hr v a' t' e
    obtain ⟨b, hb, e⟩ := inc_ok (show inc (newsK j k) a (put a (.dead .nil) t) = _ from e)
    obtain ⟨w, n', h', e1, e2⟩ := newsK_ref hk j b _ _ _ (hr.new hb (B := .dead .nil) rfl) v a' t' e
    refine ⟨w, n', h', ?_, e2⟩
    show bnd (bnd (new [] .dead) fun _ => newsD j) (fun _ => m) n h = _
    rw [bnd_assoc, bnd_of (new_of (hr.fresh n (Nat.le_refl _)) rfl)]
    exact e1

/-! ## The list behind it, in every order -/

/-- Lists of numbers that are the same. -/
noncomputable def eqIL (l : V) : V → R → R := @V.rec (fun _ => V → R → R) (fun m k => isNil m k) (fun m k => isNil m k) (fun _ => fun m k => isNil m k) (fun _ => fun m k => isNil m k) (fun _ _ => fun m k => isNil m k) (fun _ => fun m k => isNil m k) (fun _ _ => fun m k => isNil m k) (fun m k => isNil m k) (fun _ _ _ _ => fun m k => isNil m k) (fun m k => isNil m k) (fun m k => isNil m k) (fun x _ _ ih m k => on_cons m fun y r => on_i x fun z => on_i y fun z' => ifR (ieq z z') (ih r k) .bad) (fun _ _ => fun m k => isNil m k) (fun _ _ => fun m k => isNil m k) (fun _ => fun m k => isNil m k) (fun m k => isNil m k) (fun _ _ _ => fun m k => isNil m k) (fun m k => isNil m k) (fun _ _ _ => fun m k => isNil m k) (fun m k => isNil m k) (fun _ => fun m k => isNil m k) l
theorem eqIL_ok {k : R} {v : V} {a : Ad} {t : T4} : ∀ {l m : V}, eqIL l m k = .ok v a t → cvL l = cvL m ∧ k = .ok v a t := by
  intro l
  induction l with
  | cons x r _ ih =>
    intro m h
    obtain ⟨y, s, rfl, h1⟩ := on_cons_ok (show on_cons m (fun y r' => on_i x fun z => on_i y fun z' => ifR (ieq z z') (eqIL r r' k) .bad) = _ from h)
    obtain ⟨z, rfl, h2⟩ := on_i_ok h1
    obtain ⟨z', rfl, h3⟩ := on_i_ok h2
    rcases ifR_ok h3 with ⟨hb, h4⟩ | ⟨_, h4⟩
    case inr => cases h4
    obtain ⟨h5, h6⟩ := ih h4
    rw [ieq_eq] at hb
    have hz : z = z' := of_decide_eq_true hb
    subst hz
    refine ⟨?_, h6⟩
    show cv (.i z) :: cvL r = cv (.i z) :: cvL s
    rw [h5]
  | _ => intro m h; obtain ⟨h1, h2⟩ := isNil_ok h; exact ⟨h1.symm, h2⟩
/-- Slices that are the same. -/
noncomputable def eqSl (x y : V) (k : R) : R := on_s x fun d o l c => on_s y fun d' o' l' c' => ifR (Nat.beq (num d) (num d')) (ifR (Nat.beq o o') (ifR (Nat.beq l l') (ifR (Nat.beq c c') k .bad) .bad) .bad) .bad
theorem eqSl_ok {x y : V} {k : R} {v : V} {a : Ad} {t : T4} (h : eqSl x y k = .ok v a t) : x = y ∧ x ≠ .u ∧ k = .ok v a t := by
  obtain ⟨d, o, l, c, rfl, h1⟩ := on_s_ok h
  obtain ⟨d', o', l', c', rfl, h2⟩ := on_s_ok h1
  rcases ifR_ok h2 with ⟨b1, h3⟩ | ⟨_, h3⟩
  case inr => cases h3
  rcases ifR_ok h3 with ⟨b2, h4⟩ | ⟨_, h4⟩
  case inr => cases h4
  rcases ifR_ok h4 with ⟨b3, h5⟩ | ⟨_, h5⟩
  case inr => cases h5
  rcases ifR_ok h5 with ⟨b4, h6⟩ | ⟨_, h6⟩
  case inr => cases h6
  have e1 := num_inj (Nat.eq_of_beq_eq_true b1)
  have e2 := Nat.eq_of_beq_eq_true b2
  have e3 := Nat.eq_of_beq_eq_true b3
  have e4 := Nat.eq_of_beq_eq_true b4
  subst e1 e2 e3 e4
  exact ⟨rfl, by simp, h6⟩

/-- One order. -/
noncomputable def oneOrd (sK : V → (V → St) → St) (x : V) (d a : Ad) (t : T4) (v0 L0 L : V) (k : R) : R := onesK L (onR (sK x fin a (put d (.grow L) t)) fun v1 t1 => eqSl v1 v0 (grown (get d t1) fun L1 => eqIL L1 L0 k))
noncomputable def allOrd (sK : V → (V → St) → St) (x : V) (d a : Ad) (t : T4) (v0 L0 : V) (ls : List (List V)) (k : R) : R := @List.rec (List V) (fun _ => R) k (fun l _ ih => oneOrd sK x d a t v0 L0 (kflat l) ih) ls

/-- What turns one block, and sees no other. -/
def OneB (S : Value → M Value) : Prop := ∀ (b len cap n n' : Nat) (h h' : H) (v : Value), S (.slice (some ⟨b, 0, none⟩) len cap) n h = some (v, n', h') → n' = n ∧ ∃ B C, h.get b = some B ∧ h' = h.set b C ∧ ∀ n2 h2, h2.get b = some B → S (.slice (some ⟨b, 0, none⟩) len cap) n2 h2 = some (v, n2, h2.set b C)

theorem oneOrd_ok {sK : V → (V → St) → St} {S : Value → M Value} (hS : ∀ v w K K', VRel v w → KR K K' → Ref (sK v K) (bnd (S w) K')) (hone : OneB S) {d a : Ad} {len cap : Nat} {t : T4} {n : Nat} {h : H} (hr : HR a t n h) (hd : (h.get (num d)).isSome = true) {v0 L0 L : V} {k : R} {v : V} {a' : Ad} {t' : T4}
    (e : oneOrd sK (.s d 0 len cap) d a t v0 L0 L k = .ok v a' t') : k = .ok v a' t' ∧ Turns S (.slice (some ⟨num d, 0, none⟩) len cap) (num d) ⟨cvL L, .grow⟩ (cv v0) ⟨cvL L0, .grow⟩ := by
  obtain ⟨_, e0⟩ := onesK_ok e
  obtain ⟨v1, a1, t1, e1, hsk, e2⟩ := onR_ok e0
  obtain ⟨hv, hvu, e3⟩ := eqSl_ok e2
  obtain ⟨L1, hL1, e4⟩ := grown_ok e3
  obtain ⟨hL, e5⟩ := eqIL_ok e4
  refine ⟨e5, ?_⟩
  have hr2 := hr.put (d := d) (B := .grow L) (C := ⟨cvL L, .grow⟩) hd rfl
  obtain ⟨w1, n1, h1, f1, f2, f3⟩ := hS (.s d 0 len cap) (cv (.s d 0 len cap)) fin _ (.of _) fin_ref a _ n _ hr2 _ _ _ e1
  replace f2 := f2.rel hsk
  replace f3 := f3.rel hsk
  rw [bnd_ret] at f1
  obtain ⟨_, B, C, hB, hC, hall⟩ := hone (num d) len cap _ _ _ _ _ f1
  rw [H.get_set_same] at hB
  cases hB
  have hw : w1 = cv v0 := by rw [f2.got hvu, hv]
  have hC2 : C = ⟨cvL L0, .grow⟩ := by
    have := f3.blk d
    rw [hC, H.get_set_same, hL1] at this
    have : C = ⟨cvL L1, .grow⟩ := Option.some.inj this
    rw [this, hL]
  subst hw hC2
  exact hall
theorem allOrd_ok {sK : V → (V → St) → St} {S : Value → M Value} (hS : ∀ v w K K', VRel v w → KR K K' → Ref (sK v K) (bnd (S w) K')) (hone : OneB S) {d a : Ad} {len cap : Nat} {t : T4} {n : Nat} {h : H} (hr : HR a t n h) (hd : (h.get (num d)).isSome = true) {v0 L0 : V} {k : R} {v : V} {a' : Ad} {t' : T4} :
    ∀ {ls : List (List V)}, allOrd sK (.s d 0 len cap) d a t v0 L0 ls k = .ok v a' t' → k = .ok v a' t' ∧ ∀ l, l ∈ ls → Turns S (.slice (some ⟨num d, 0, none⟩) len cap) (num d) ⟨Fw.flatK (l.map cv), .grow⟩ (cv v0) ⟨cvL L0, .grow⟩
  | [], e => ⟨e, fun l hl => nomatch hl⟩
  | l :: ls, e => by
    obtain ⟨e1, h1⟩ := oneOrd_ok hS hone hr hd (show oneOrd sK (.s d 0 len cap) d a t v0 L0 (kflat l) (allOrd sK (.s d 0 len cap) d a t v0 L0 ls k) = _ from e)
    obtain ⟨e2, h2⟩ := allOrd_ok hS hone hr hd e1
    refine ⟨e2, fun l' hl => ?_⟩
    rcases List.mem_cons.1 hl with rfl | hl
    · rw [← kflat_eq]; exact h1
    · exact h2 l' hl

noncomputable def lenL (l : List V) : Nat := @List.rec V (fun _ => Nat) 0 (fun _ _ n => Nat.succ n) l
theorem lenL_eq : ∀ l : List V, lenL l = l.length
  | [] => rfl
  | x :: l => by show Nat.succ (lenL l) = l.length + 1; rw [lenL_eq l]
/-- The walk, and what turns the list. -/
noncomputable def kColl (sK : V → (V → St) → St) (m : V) (K : V → St) : St := fun a t =>
  on_m m fun d => mpK d t fun r => on_cons r fun w1 r => on_w w1 fun sz => ifR (Nat.beq sz 2) (on_cons r fun w2 es => on_w w2 fun cl => riseC cl es 0 0 (ifR (Nat.blt (lenV es) 13)
    (@List.rec V (fun _ => R) (inc (sK .ns K) a (put a (.dead .nil) t)) (fun x ks _ =>
      newsK (lenV es) (fun a t => onesK (kflat (x :: ks)) (inc (fun a1 t1 => onR (sK (.s a 0 (Nat.succ (lenL ks)) 18446744073709551618) fin a1 t1) fun v0 t0 => grown (get a t0) fun L0 =>
        allOrd sK (.s a 0 (Nat.succ (lenL ks)) 18446744073709551618) a a1 t1 v0 L0 (prm (x :: ks)) (sK (.s a 0 (Nat.succ (lenL ks)) 18446744073709551618) K a1 t1)) a (put a (.grow (kflat (x :: ks))) t))) a t) (keysL es 0)) .bad)) .bad

theorem kColl_ref {sK : V → (V → St) → St} {S : Value → M Value} (hS : ∀ v w K K', VRel v w → KR K K' → Ref (sK v K) (bnd (S w) K')) (hone : OneB S) {m : V} {w : Value} (hm : VRel m w) {K : V → St} {K' : Value → M Value} (hK : KR K K') : Ref (kColl sK m K) (bnd (colM S w) K') := by
  classical
  intro a t n h hr v a' t' e
  obtain ⟨d, rfl, e1⟩ := on_m_ok e
  obtain ⟨r, hmd, e2⟩ := mpK_ok hr e1
  obtain ⟨w1, r1, rfl, e3⟩ := on_cons_ok e2
  obtain ⟨sz, rfl, e4⟩ := on_w_ok e3
  rcases ifR_ok e4 with ⟨b1, e5⟩ | ⟨_, e5⟩
  case inr => cases e5
  have b1 := Nat.eq_of_beq_eq_true b1
  subst b1
  obtain ⟨w2, es, rfl, e6⟩ := on_cons_ok e5
  obtain ⟨cl, rfl, e7⟩ := on_w_ok e6
  obtain ⟨e8, E, hE, h1, h2, h3, h4⟩ := riseC_ok _ es 0 (Nat.lt_succ_self _) e7
  rcases ifR_ok e8 with ⟨b2, e9⟩ | ⟨_, e9⟩
  case inr => cases e9
  have b2 : lenV es < 13 := blt_lt b2
  rw [hm.got (by simp)]
  have hgo : ∀ q, bnd (if E = [] then bnd (new [] .dead) fun _ => S (.slice none 0 0)
          else bnd (newsD (3 * E.length)) fun _ => bnd (new (Fw.flatK (E.map (·.1))) .grow) fun b => if SameP S (E.map (·.1)) b then S (colV b (E.map (·.1))) else fail) K' n h = q → bnd (colM S (cv (.m d))) K' n h = q := by
    intro q hq
    show bnd (bnd (mpGet (num d)) _) K' n h = _
    rw [bnd_assoc, bnd_of (mpGet_of hmd)]
    show bnd (match decE (cvL es) with
      | some E => if 2 = 2 ∧ E.all (fun p => decide (p.2.2 < cl)) = true ∧ (borns E).Nodup ∧ E.length < 1000000 then
          (if E = [] then bnd (new [] .dead) fun _ => S (.slice none 0 0)
          else bnd (newsD (3 * E.length)) fun _ => bnd (new (Fw.flatK (E.map (·.1))) .grow) fun b => if SameP S (E.map (·.1)) b then S (colV b (E.map (·.1))) else fail)
        else fail
      | none => fail) K' n h = _
    rw [hE]
    dsimp only
    rw [if_pos ⟨rfl, List.all_eq_true.2 (fun p hp => decide_eq_true (h1 p hp).2), h2, by omega⟩]
    exact hq
  obtain ⟨ks, hks⟩ : ∃ ks, ks = keysL es 0 := ⟨_, rfl⟩
  rw [← hks] at e9 h3
  cases ks with
  | nil =>
    have hEn : E = [] := List.map_eq_nil_iff.1 h3
    obtain ⟨b, hb, f1⟩ := inc_ok (show inc (sK .ns K) a (put a (.dead .nil) t) = _ from e9)
    have hr2 := hr.new hb (B := .dead .nil) rfl
    obtain ⟨w3, n3, h5, g1, g2⟩ := hS .ns (.slice none 0 0) K K' (.of .ns) hK b _ _ _ hr2 _ _ _ f1
    refine ⟨w3, n3, h5, hgo _ ?_, g2⟩
    rw [if_pos hEn, bnd_assoc, bnd_of (new_of (hr.fresh n (Nat.le_refl _)) rfl)]
    exact g1
  | cons x ks =>
    have hEn : E ≠ [] := fun q => by rw [q] at h3; simp at h3
    have hEl : E.length = ks.length + 1 := by have := congrArg List.length h3; simpa using this
    have href : Ref (newsK (lenV es) (fun a t => onesK (kflat (x :: ks)) (inc (fun a1 t1 => onR (sK (.s a 0 (Nat.succ (lenL ks)) 18446744073709551618) fin a1 t1) fun v0 t0 => grown (get a t0) fun L0 =>
        allOrd sK (.s a 0 (Nat.succ (lenL ks)) 18446744073709551618) a a1 t1 v0 L0 (prm (x :: ks)) (sK (.s a 0 (Nat.succ (lenL ks)) 18446744073709551618) K a1 t1)) a (put a (.grow (kflat (x :: ks))) t))))
        (bnd (newsD (lenV es)) fun _ => bnd (bnd (new (Fw.flatK (E.map (·.1))) .grow) fun b => if SameP S (E.map (·.1)) b then S (colV b (E.map (·.1))) else fail) K') := by
      refine newsK_ref ?_ _
      intro a t n h hr v a' t' e
      obtain ⟨hone1, f1⟩ := onesK_ok e
      obtain ⟨a1, ha1, f2⟩ := inc_ok f1
      obtain ⟨v0, a0, t0, f3, _, f4⟩ := onR_ok f2
      obtain ⟨L0, hL0, f5⟩ := grown_ok f4
      have hflat : cvL (kflat (x :: ks)) = Fw.flatK (E.map (·.1)) := by rw [kflat_eq, h3]
      have hr2 := hr.new ha1 (B := .grow (kflat (x :: ks))) (C := ⟨cvL (kflat (x :: ks)), .grow⟩) rfl
      have hn : n = num a := hr.n_eq
      have hsome : ((h.set n ⟨cvL (kflat (x :: ks)), .grow⟩).get (num a)).isSome = true := by rw [hn, H.get_set_same]; rfl
      obtain ⟨f6, hall⟩ := allOrd_ok hS hone hr2 hsome f5
      have hlen : Nat.succ (lenL ks) = (E.map (·.1)).length := by rw [List.length_map, hEl, lenL_eq]
      have hcol : colV (num a) (E.map (·.1)) = .slice (some ⟨num a, 0, none⟩) (Nat.succ (lenL ks)) 18446744073709551618 := by
        rw [colV_ne (fun q => hEn (List.map_eq_nil_iff.1 q)), ← hlen]
        rfl
      have hsame : SameP S (E.map (·.1)) (num a) := by
        refine ⟨cv v0, ⟨cvL L0, .grow⟩, fun ks' hp => ?_⟩
        have hmem := prm_mem hp
        rw [h3, prm_map] at hmem
        obtain ⟨l, hl, rfl⟩ := List.mem_map.1 hmem
        rw [hcol]
        exact hall l hl
      obtain ⟨w3, n3, h5, g1, g2⟩ := hS (.s a 0 (Nat.succ (lenL ks)) 18446744073709551618) _ K K' (.of _) hK a1 _ _ _ hr2 _ _ _ f6
      refine ⟨w3, n3, h5, ?_, g2⟩
      rw [bnd_assoc, bnd_of (new_of (hr.fresh n (Nat.le_refl _)) (by rw [← hflat]; exact hone1))]
      show bnd (if SameP S (E.map (·.1)) n then S (colV n (E.map (·.1))) else fail) K' (n + 1) _ = _
      rw [hn, if_pos hsame, hcol, ← hflat]
      rw [hn] at g1
      exact g1
    obtain ⟨w3, n3, h5, g1, g2⟩ := href a t n h hr v a' t' e9
    refine ⟨w3, n3, h5, hgo _ ?_, g2⟩
    rw [if_neg hEn, bnd_assoc, ← h4]
    exact g1
end Go.Fk
end
section
set_option linter.unusedVariables false
namespace Go.Fw

/-- A package variable's block, as a run beside the heap sees it. -/
def resB (B : Blk) : Blk :=
  match B.kind with
  | .ro => if B.cells.all okC0 = true then B else dead
  | _ => dead
def resH (h : H) : Nat → H
  | 0 => .leaf
  | g + 1 => match h.get g with
    | some B => (resH h g).set g (resB B)
    | none => resH h g
theorem resH_get (h : H) : ∀ (G b : Nat), (resH h G).get b = if b < G then (h.get b).map resB else none
  | 0, b => by simp [resH, H.get]
  | g + 1, b => by
    unfold resH
    cases hg : h.get g with
    | none =>
      dsimp only
      rw [resH_get h g b]
      by_cases e : b = g
      · subst e; rw [if_neg (by omega), if_pos (by omega), hg]; rfl
      · by_cases h2 : b < g
        · rw [if_pos h2, if_pos (by omega)]
        · rw [if_neg h2, if_neg (by omega)]
    | some B =>
      dsimp only
      rw [H.get_set, resH_get h g b]
      by_cases e : b = g
      · subst e; rw [if_pos rfl, if_pos (by omega), hg]; rfl
      · rw [if_neg e]
        by_cases h2 : b < g
        · rw [if_pos h2, if_pos (by omega)]
        · rw [if_neg h2, if_neg (by omega)]
theorem resB_cases (B : Blk) : resB B = dead ∨ (resB B = B ∧ B.kind = .ro ∧ B.cells.all okC0 = true) := by
  unfold resB
  cases hk : B.kind with
  | ro =>
    dsimp only
    split
    · rename_i h; exact .inr ⟨rfl, rfl, h⟩
    · exact .inl rfl
  | _ => exact .inl rfl

def gbF (G : Nat) (m : List Value → M Value) (args : List Value) : Nat → H → Option (Value × Nat × H) := fun n h =>
  match args with
  | [] => match (m []).run G (resH h G) with
    | some (v, _, _) => if okC0 v = true then some (v, n, h) else none
    | none => none
  | _ => none
theorem gbF_local (G : Nat) (m : List Value → M Value) (args : List Value) : Local (gbF G m args) := by
  unfold gbF
  split
  · refine Local.look _ (fun n h a n' h' e => ?_) fun n h k a n' h' e hs => ?_
    · split at e
      · split at e
        · simp only [Option.some.injEq, Prod.mk.injEq] at e; exact ⟨e.2.1.symm, e.2.2.symm⟩
        · cases e
      · cases e
    · split at e
      case h_2 => cases e
      rename_i v n1 S hm
      split at e
      case isFalse => cases e
      rename_i hv
      simp only [Option.some.injEq, Prod.mk.injEq] at e
      obtain ⟨rfl, rfl, rfl⟩ := e
      have hsub : Sub (resH h G) (resH k G) := by
        intro b B hb
        rw [resH_get] at hb ⊢
        split at hb
        · rename_i hlt
          rw [if_pos hlt]
          cases hg : h.get b with
          | none => rw [hg] at hb; cases hb
          | some C => rw [hs b C hg]; rw [hg] at hb; exact hb
        · cases hb
      obtain ⟨k', hk, _⟩ := ((m []).loc _ _ _ _ _ hm).more (resH k G) hsub (fun b h1 h2 => by rw [resH_get, if_neg (by omega)])
      replace hk : (m []).run G (resH k G) = some (v, n1, k') := hk
      rw [hk]
      dsimp only
      rw [if_pos hv]
  · exact Local.nothing
def gbM (G : Nat) (m : List Value → M Value) (args : List Value) : M Value := ⟨gbF G m args, gbF_local G m args⟩

theorem gb_sim {P : Program} {G : Nat} {f : FuncId} {m : List Value → M Value} (hS : Sim P G f m) : Sim P G f (gbM G m) := by
  refine ⟨hS.enter, fun args n h v n' h' e ρ w args' r ha => ?_⟩
  replace e : gbF G m args n h = some (v, n', h') := e
  unfold gbF at e
  split at e
  case h_2 => cases e
  split at e
  case h_2 => cases e
  rename_i u q S hm
  split at e
  case isFalse => cases e
  rename_i hv
  simp only [Option.some.injEq, Prod.mk.injEq] at e
  obtain ⟨rfl, rfl, rfl⟩ := e
  let ρS : Map := fun c => if c < G then ρ c else none
  have see : ∀ c X, (resH h G).get c = some X → c < G ∧ (X = dead ∨ (h.get c = some X ∧ X.kind = .ro ∧ X.cells.all okC0 = true)) := by
    intro c X hX
    rw [resH_get] at hX
    split at hX
    · rename_i hlt
      refine ⟨hlt, ?_⟩
      cases hg : h.get c with
      | none => rw [hg] at hX; cases hX
      | some B =>
        rw [hg] at hX
        cases hX
        rcases resB_cases B with e | ⟨e1, e2, e3⟩
        · exact .inl e
        · rw [e1]; exact .inr ⟨rfl, e2, e3⟩
    · cases hX
  have noMine : ∀ c X, (resH h G).get c = some X → ¬ X.mine := by
    intro c X hX hm
    rcases (see c X hX).2 with e | ⟨_, e, _⟩
    · rw [e] at hm; exact not_mine_dead hm
    · rcases hm with h | h <;> rw [e] at h <;> cases h
  have noMap : ∀ c X, (resH h G).get c = some X → ¬ X.isMap := by
    intro c X hX hm
    rcases (see c X hX).2 with e | ⟨_, e, _⟩
    · rw [e] at hm; exact not_isMap_dead hm
    · have := hm.1; rw [e] at this; cases this
  have rS : R G ρS (resH h G) w := by
    refine ⟨fun c => ?_, fun g hg => ?_, fun c X M hX hl hM => ?_, fun c d X Y M N hne hX hY hlX hmY hM hN => ?_, fun c X M hX hmX hM => ?_, fun c d X Y M N hne hX hY hmX hmY hM hN => ?_⟩
    · rw [resH_get]
      show _ = (if c < G then ρ c else none).isSome
      split
      · rw [← r.dom]
        cases h.get c <;> rfl
      · rfl
    · obtain ⟨lim, hgl⟩ := r.glob g hg
      exact ⟨lim, by show (if g < G then ρ g else none) = _; rw [if_pos hg, hgl]⟩
    · obtain ⟨hlt, hX | ⟨hX, hk, hcs⟩⟩ := see c X hX
      · rw [hX] at hl; exact absurd hl not_live_dead
      · have hM : (if c < G then ρ c else none) = some M := hM
        rw [if_pos hlt] at hM
        obtain ⟨⟨arr, elem, fz, h1, h2, h3, h4⟩, h5, h6⟩ := r.blk c X M hX hl hM
        refine ⟨⟨arr, elem, fz, h1, h2, h3, fun i v hv => ?_⟩, h5, h6⟩
        obtain ⟨v', h7, h8⟩ := h4 i v hv
        have hp := List.all_eq_true.1 hcs v (List.mem_of_getElem? hv)
        have := h8.same_of_okC0 hp
        subst this
        exact ⟨_, h7, VR.of_okC0 hp⟩
    · exact absurd hmY (noMine d Y hY)
    · exact absurd hmX (noMap c X hX)
    · exact absurd hmX (noMap c X hX)
  refine (hS.calls _ _ _ _ _ _ hm ρS w _ rS (ha.plain rfl)).mono fun en w' hen => ?_
  obtain ⟨v', ρ1, rfl, hv', hR, hx⟩ := hen
  have noOwn : ∀ k, ¬ Own ρS (resH h G) k := by
    rintro k ⟨c, X, M, hX, ho, hM, rfl⟩
    rcases ho with ho | ho
    · exact noMine c X hX ho
    · exact noMap c X hX ho
  have keep : ∀ k, k < w.heap.size → w'.heap[k]? = w.heap[k]? := fun k hk => hx.frame k hk (noOwn k)
  refine ⟨v', ρ, rfl, ?_, ?_, ?_⟩
  · have h1 : one u = true := by cases u <;> first | rfl | (simp [okC0] at hv)
    have h2 := (hv'.strict h1).same_of_okC0 hv
    subst h2
    exact (VR.of_okC0 hv).weak
  · refine ⟨r.dom, r.glob, fun c X M hX hl hM => ?_, r.apart, fun c X M hX hmX hM => ?_, r.lone⟩
    · obtain ⟨⟨arr, elem, fz, h1, h2, h3, h4⟩, h5, h6⟩ := r.blk c X M hX hl hM
      exact ⟨⟨arr, elem, fz, by rw [keep _ (r.blk_lt hX hl hM)]; exact h1, h2, h3, h4⟩, h5, h6⟩
    · have hmo := r.maps c X M hX hmX hM
      exact hmo.keep (Le.refl _) (keep _ hmo.lt)
  · exact ⟨Le.refl _, hx.os, hx.tape, hx.output, hx.size, fun k hk _ => keep k hk, fun k _ ho => ho⟩

end Go.Fw
end
section
set_option linter.unusedVariables false
namespace Go.Fk
open Go Go.Fw

/-- The table's cells. -/
noncomputable def tabK (ns : List Nat) : V → R → R := @List.rec Nat (fun _ => V → R → R) (fun l k => isNil l k) (fun n _ ih l k => on_cons l fun x r => on_k x fun kd z => @IntKind.rec (fun _ => R) .bad .bad .bad .bad (@Int.rec (fun _ => R) (fun m => ifR (Nat.beq m n) (ih r k) .bad) (fun _ => .bad) z) .bad .bad .bad kd) ns
theorem tabK_ok {k : R} {v : V} {a : Ad} {t : T4} : ∀ {ns : List Nat} {l : V}, tabK ns l k = .ok v a t → cvL l = ns.map (fun n : Nat => Value.int .u8 (n : Int)) ∧ k = .ok v a t
  | [], l, h => isNil_ok h
  | n :: ns, l, h => by
    obtain ⟨x, r, rfl, h1⟩ := on_cons_ok (show on_cons l _ = _ from h)
    obtain ⟨kd, z, rfl, h2⟩ := on_k_ok h1
    cases kd <;> try (cases h2; done)
    cases z with
    | negSucc _ => cases h2
    | ofNat m =>
      rcases ifR_ok h2 with ⟨hb, h3⟩ | ⟨_, h3⟩
      case inr => cases h3
      have := Nat.eq_of_beq_eq_true hb
      subst this
      obtain ⟨h4, h5⟩ := tabK_ok (show tabK ns r k = _ from h3)
      refine ⟨?_, h5⟩
      show Value.int .u8 (m : Int) :: cvL r = _
      rw [h4]
      rfl
noncomputable def roK (x : Bk) (k : V → R) : R := @Bk.rec (fun _ => R) .bad k (fun _ => .bad) (fun _ => .bad) (fun _ => .bad) x
theorem roK_ok {x : Bk} {k : V → R} {v : V} {a : Ad} {t : T4} (h : roK x k = .ok v a t) : ∃ l, x = .ro l ∧ k l = .ok v a t := by
  cases x <;> first | exact ⟨_, rfl, h⟩ | cases h

/-- The heap that a run begins with: the first package variable is not looked at, the second one is the table. -/
noncomputable def tabV (ns : List Nat) : V := @List.rec Nat (fun _ => V) .nil (fun n _ ih => .cons (.k .u8 (.ofNat n)) ih) ns
theorem tabV_eq : ∀ ns : List Nat, cvL (tabV ns) = ns.map (fun n : Nat => Value.int .u8 (n : Int))
  | [] => rfl
  | n :: ns => by show Value.int .u8 (n : Int) :: cvL (tabV ns) = _; rw [tabV_eq ns]; rfl
noncomputable def base2 (ns : List Nat) : T4 := put (adOf 1) (.ro (tabV ns)) (put (adOf 0) (.dead .nil) z4)

noncomputable def kOnce (ns : List Nat) (K : V → St) : St := fun a t => deadB (get (adOf 0) t) fun _ => roK (get (adOf 1) t) fun l => tabK ns l (K (.b true) a t)

theorem base2_HR (ns : List Nat) {h : H} {a : Ad} (ha : 2 ≤ num a) (h0 : ∃ l, h.get 0 = some ⟨l, .dead⟩) (h1 : h.get 1 = some ⟨ns.map (fun n : Nat => Value.int .u8 (n : Int)), .ro⟩) : HR a (base2 ns) (num a) (resH h 2) := by
  have n0 : num (adOf 0) = 0 := num_adOf (by omega)
  have n1 : num (adOf 1) = 1 := num_adOf (by omega)
  obtain ⟨l, h0⟩ := h0
  refine ⟨rfl, fun d => ?_, fun b hb => by rw [resH_get, if_neg (by omega)]⟩
  rw [resH_get]
  unfold base2
  by_cases e1 : d = adOf 1
  · subst e1
    rw [get_put, n1, if_pos (by omega), h1]
    show some (resB _) = some ⟨cvL (tabV ns), .ro⟩
    rw [tabV_eq]
    show some (if (ns.map (fun n : Nat => Value.int .u8 (n : Int))).all okC0 = true then _ else dead) = _
    rw [if_pos]
    rw [List.all_eq_true]
    intro v hv
    obtain ⟨n, _, rfl⟩ := List.mem_map.1 hv
    rfl
  · rw [get_put_ne e1]
    by_cases e0 : d = adOf 0
    · subst e0
      rw [get_put, n0, if_pos (by omega), h0]
      rfl
    · rw [get_put_ne e0, get_z, if_neg (fun hlt => by
        have : num d = 0 ∨ num d = 1 := by omega
        rcases this with q | q
        · exact e0 (num_inj (q.trans n0.symm))
        · exact e1 (num_inj (q.trans n1.symm)))]
      rfl

/-- A run from the base, told of every heap that holds it. -/
theorem run_of_base {fl : KF} {m : List Value → M Value} (hc : CRef fl m) {ns : List Nat} {vs : List V} {ws : List Value} (hv : VL' vs ws) {a : Ad} (ha : 2 ≤ num a) (hrun : fl vs finT a (base2 ns) = yesR) {h : H} (hf : ∀ b, num a ≤ b → h.get b = none)
    (h0 : h.get 0 = some ⟨[], .dead⟩) (h1 : h.get 1 = some ⟨ns.map (fun n : Nat => Value.int .u8 (n : Int)), .ro⟩) : ∃ n' h', (m ws).run (num a) h = some (.bool true, n', h') := by
  obtain ⟨w1, n2, h3, f1, f2, f3⟩ := hc _ _ finT _ hv finT_ref a (base2 ns) _ _ (base2_HR ns ha ⟨_, h0⟩ h1) _ _ _ hrun
  rw [bnd_ret] at f1
  have hw : w1 = .bool true := f2.yes
  subst hw
  have hsub : Sub (resH h 2) h := by
    intro b B hb
    rw [resH_get] at hb
    split at hb
    · rename_i hlt
      have : b = 0 ∨ b = 1 := by omega
      rcases this with rfl | rfl
      · rw [h0] at hb ⊢; exact hb
      · rw [h1] at hb ⊢
        have hr : resB ⟨ns.map (fun n : Nat => Value.int .u8 (n : Int)), .ro⟩ = ⟨ns.map (fun n : Nat => Value.int .u8 (n : Int)), .ro⟩ := by
          show (if (ns.map (fun n : Nat => Value.int .u8 (n : Int))).all okC0 = true then _ else dead) = _
          rw [if_pos]
          rw [List.all_eq_true]
          intro v hv
          obtain ⟨n, _, rfl⟩ := List.mem_map.1 hv
          rfl
        rw [Option.map_some, hr] at hb
        exact hb
    · cases hb
  obtain ⟨k', hk, _⟩ := ((m ws).loc _ _ _ _ _ f1).more h hsub (fun b hb1 hb2 => hf b hb1)
  exact ⟨_, _, hk⟩

theorem kOnce_ref {fl : KF} {m : List Value → M Value} (hc : CRef fl m) {ns : List Nat} (hrun : fl [] finT gA (base2 ns) = yesR) {K : V → St} {K' : Value → M Value} (hK : KR K K') : Ref (kOnce ns K) (bnd (gbM 2 m []) K') := by
  refine Ref.step hK fun a t n h hh v a' t' e => ?_
  have n0 : num (adOf 0) = 0 := num_adOf (by omega)
  have n1 : num (adOf 1) = 1 := num_adOf (by omega)
  obtain ⟨l0, h0, e⟩ := deadB_ok e
  obtain ⟨l1, h1, e⟩ := roK_ok e
  obtain ⟨h2, e⟩ := tabK_ok e
  have g0 : h.get 0 = some ⟨cvL l0, .dead⟩ := by
    have := hh.blk (adOf 0)
    rw [n0, h0] at this
    exact this
  have g1 : h.get 1 = some ⟨ns.map (fun n : Nat => Value.int .u8 (n : Int)), .ro⟩ := by
    have := hh.blk (adOf 1)
    rw [n1, h1] at this
    rw [this, ← h2]
    rfl
  obtain ⟨w1, n2, h3, f1, f2, f3⟩ := hc _ _ finT _ .nil finT_ref gA (base2 ns) 2 _ (base2_HR ns (a := gA) (by decide) ⟨_, g0⟩ g1) _ _ _ hrun
  rw [bnd_ret] at f1
  have hw : w1 = .bool true := f2.yes
  subst hw
  refine ⟨.b true, .bool true, a, t, n, h, ?_, .of (.b true), hh, e⟩
  show gbF 2 m [] n h = _
  unfold gbF
  have f1 : (m []).run 2 (resH h 2) = some (.bool true, n2, h3) := f1
  simp only [f1]
  rfl

/-- A function that is told once. -/
theorem FR.once {P : Program} {f : FuncId} {fl : KF} (h : FR P 2 f fl) {ns : List Nat} (hrun : fl [] finT gA (base2 ns) = yesR) : FR P 2 f (apN 0 (kOnce ns)) := by
  obtain ⟨m, hm, hc⟩ := h
  refine ⟨gbM 2 m, gb_sim hm, fun vs ws K K' hv hK => ?_⟩
  cases hv with
  | nil => exact kOnce_ref hc hrun hK
  | cons _ _ => exact Ref.bad
end Go.Fk
end
section
namespace Go.Fw

/-! ## A table -/
def tab (N : Nat) (f : Nat → Value) : List Value := (List.range N).map f
theorem tab_len {N : Nat} {f : Nat → Value} : (tab N f).length = N := by simp [tab]
theorem tab_get {N : Nat} {f : Nat → Value} {i : Nat} (h : i < N) : (tab N f)[i]? = some (f i) := by simp [tab, h]
/-! ## Several cells at once -/
/-! ## Lists of lists -/

/-- A slice of slices: all of it lies at lo or behind, each piece by itself. -/
def LL (h : H) (v : Value) (lo G : Nat) (L : Nat → List Value) : Prop :=
  ∃ (ob : Nat) (iv : Nat → Value) (ib : Nat → Nat), Gl h v ob (tab G iv) ∧ (G ≠ 0 → lo ≤ ob) ∧ (∀ j, j < G → Gl h (iv j) (ib j) (L j) ∧ (L j ≠ [] → lo ≤ ib j ∧ ib j ≠ ob)) ∧
    ∀ i j, i < G → j < G → i ≠ j → L i ≠ [] → L j ≠ [] → ib i ≠ ib j

theorem LL.nil {h : H} {lo : Nat} {L : Nat → List Value} : LL h nsl lo 0 L := ⟨0, fun _ => nsl, fun _ => 0, .inl ⟨rfl, rfl⟩, fun h => absurd rfl h, fun j hj => by omega, fun i j hi => by omega⟩

theorem LL.mono {h : H} {v : Value} {lo lo' G : Nat} {L : Nat → List Value} (l : LL h v lo G L) (hl : lo' ≤ lo) : LL h v lo' G L := by
  obtain ⟨ob, iv, ib, g, hlo, hi, hd⟩ := l
  exact ⟨ob, iv, ib, g, fun h0 => Nat.le_trans hl (hlo h0), fun j hj => ⟨(hi j hj).1, fun h0 => ⟨Nat.le_trans hl ((hi j hj).2 h0).1, ((hi j hj).2 h0).2⟩⟩, hd⟩

theorem LL.congr {h : H} {v : Value} {lo G : Nat} {L L' : Nat → List Value} (l : LL h v lo G L) (e : ∀ j, j < G → L j = L' j) : LL h v lo G L' := by
  obtain ⟨ob, iv, ib, g, hlo, hi, hd⟩ := l
  exact ⟨ob, iv, ib, g, hlo, fun j hj => by rw [← e j hj]; exact hi j hj, fun i j hi' hj hne h1 h2 => hd i j hi' hj hne (by rw [e i hi']; exact h1) (by rw [e j hj]; exact h2)⟩

theorem LL.len {β : Type} {h : H} {v : Value} {lo G : Nat} {L : Nat → List Value} (l : LL h v lo G L) {k : Value → M β} : bnd (opLen v) k = k (i64 G) := by
  obtain ⟨ob, iv, ib, g, _⟩ := l
  rw [g.len, tab_len]

/-! ## Slices that are read -/

def Rd (h : H) (v : Value) (cs : List Value) : Prop := (cs = [] ∧ v = nsl) ∨ ∃ b o c k, v = sl b o cs.length c ∧ (cs ≠ [] → ∃ xs, h.get b = some ⟨xs, k⟩ ∧ k ≠ .dead ∧ ∀ i, i < cs.length → xs[o + i]? = cs[i]?)

theorem Rd.len {β : Type} {h : H} {v : Value} {cs : List Value} (g : Rd h v cs) {k : Value → M β} : bnd (opLen v) k = k (i64 cs.length) := by
  rcases g with ⟨rfl, rfl⟩ | ⟨b, o, c, kd, rfl, _⟩ <;> rfl
end Go.Fw
end
section
namespace Go.Fw
open Go.ChangeShapes Go.WideShapes

/-- What an argument is: a number, a bool, a slice of numbers or of arrays of so many. -/
inductive AK where
  | int
  | bool
  | flat (s : Nat)

def Fit (z : Int) : Prop := -9223372036854775808 ≤ z ∧ z ≤ 9223372036854775807

def ArgIs (h : H) : AK → Value → Prop
  | .int, v => ∃ z, v = i64 z ∧ Fit z
  | .bool, v => ∃ b, v = bo b
  | .flat s, v => v = nsl ∨ ∃ (b len cap : Nat) (Z : Nat → Int), v = sl b 0 len cap ∧ len ≤ cap ∧ cap < 9223372036854775808 ∧ (len ≠ 0 → h.get b = some ⟨tab (cap * s) fun i => i64 (Z i), .ro⟩) ∧ ∀ i, Fit (Z i)

def ArgsAre (h : H) : List AK → List Value → Prop
  | [], [] => True
  | k :: ks, v :: vs => ArgIs h k v ∧ ArgsAre h ks vs
  | _, _ => False

def argT (P : Program) (k : AK) (t : TypeId) : Bool :=
  match k, P.underlying t with
  | .int, some (.int .i64) => true
  | .bool, some .bool => true
  | .flat s, some (.slice e) => decide (0 < s) && decide (P.cellsOf e = s) && (match P.underlying e with
    | some (.int .i64) => decide (s = 1)
    | some (.array n e') => decide (n = s) && decide (P.cellsOf e' = 1) && (match P.underlying e' with | some (.int .i64) => true | _ => false)
    | _ => false)
  | _, _ => false

def argsT (P : Program) : List AK → List TypeId → Bool
  | [], [] => true
  | k :: ks, t :: ts => argT P k t && argsT P ks ts
  | _, _ => false

theorem fit_of_wf {z : Int} (h : (Lit.int .i64 z).wf = true) : Fit z := by
  have h1 : IntKind.i64.min = -9223372036854775808 := rfl
  have h2 : IntKind.i64.max = 9223372036854775807 := rfl
  simp only [Lit.wf, h1, h2, Bool.and_eq_true, decide_eq_true_eq] at h
  exact h

section
variable {H' : Type} {enc : TypeId × Value → H'} {P : Program} {W : World}

/-- The cells of an element: numbers all. -/
theorem elem_ints {n s : Nat} {e : TypeId} {cs : List Value} {x : DataW H' × List MemPlace} (ht : (match P.underlying e with
    | some (.int .i64) => decide (s = 1)
    | some (.array n e') => decide (n = s) && decide (P.cellsOf e' = 1) && (match P.underlying e' with | some (.int .i64) => true | _ => false)
    | _ => false) = true) (hl : cs.length = s) (h : DataW.trod enc P W 0 (fun _ => true) true n e cs = some x) : ∀ i, i < s → ∃ z, cs[i]? = some (i64 z) ∧ Fit z := by
  intro i hi
  split at ht
  · rename_i hu
    obtain ⟨z, rfl, _, hw⟩ := DataW.trod_int hu h
    simp only [decide_eq_true_eq] at ht
    obtain rfl : i = 0 := by omega
    exact ⟨z, rfl, fit_of_wf hw⟩
  · rename_i m e' hu
    simp only [Bool.and_eq_true, decide_eq_true_eq] at ht
    obtain ⟨⟨rfl, hc⟩, hu'⟩ := ht
    obtain ⟨xs, m', _, _, _, hxl, hx⟩ := DataW.trod_array hu h
    have := hx i hi
    rw [hc, Nat.mul_one] at this
    obtain ⟨y, hy⟩ : ∃ y, xs[i]? = some y := ⟨xs[i]'(by omega), by simp [hxl, hi]⟩
    rw [hy] at this
    split at hu'
    · rename_i hui
      obtain ⟨z, hz, _, hw⟩ := DataW.trod_int hui this
      refine ⟨z, ?_, fit_of_wf hw⟩
      have h0 : ((cs.drop i).take 1)[0]? = some (i64 z) := by rw [hz]; rfl
      simpa [List.getElem?_take, List.getElem?_drop] using h0
    · cases hu'
  · cases ht

theorem arg_enter {G n : Nat} {ρ : Map} {h : H} (en : Entry G W n ρ h) {k : AK} {t : TypeId} (hk : argT P k t = true) {v : Value} {d : DataW H'} {p : List MemPlace} {base : Nat} (hval : Value.okWide P W .any base t v) (hd : DataW.Trod enc P W 0 (fun _ => true) true t v d p) :
    ∃ ρ' h' u, Entry G W (n + 1) ρ' h' ∧ Le ρ ρ' ∧ VW ρ' u v ∧ ArgIs h' k u ∧ ∀ b, b < n → h'.get b = h.get b := by
  unfold argT at hk
  split at hk
  · rename_i hu
    obtain ⟨z, rfl, _, _, hw⟩ := open_int hu hval hd
    exact ⟨ρ, h, i64 z, en.more (by omega), Le.refl _, (VR.int _ _).weak, ⟨z, rfl, fit_of_wf hw⟩, fun _ _ => rfl⟩
  · rename_i hu
    obtain ⟨b, rfl⟩ : ∃ b, v = .bool b := by
      obtain ⟨b, hb, _⟩ := Go.RowKit.open_bool hu hval hd
      exact ⟨b, hb⟩
    exact ⟨ρ, h, bo b, en.more (by omega), Le.refl _, (VR.bool _).weak, ⟨b, rfl⟩, fun _ _ => rfl⟩
  · rename_i s e hu
    simp only [Bool.and_eq_true, decide_eq_true_eq] at hk
    obtain ⟨⟨hs0, hc⟩, he⟩ := hk
    obtain ⟨a0, len0, cap0, rfl⟩ := okWide_slice hu hval
    obtain ⟨fuel, hf⟩ := hd
    rcases Go.Deep.open_slice hu hf with ⟨h0, _⟩ | ⟨a, len, cap, m, n', D, Pl, h0, _, hl, hm, hmm, _, hx⟩
    · simp only [Value.cells] at h0
      cases h0
      exact ⟨ρ, h, nsl, en.more (by omega), Le.refl _, VR.nilslice.weak, Or.inl rfl, fun _ _ => rfl⟩
    · simp only [Value.cells] at h0
      cases h0
      simp only [if_true] at hmm
      subst hmm
      rw [hc] at hx
      -- each cell's number
      have each : ∀ i, i < m * s → ∃ z : Int, W.cell? (a.add i) = some (i64 z) ∧ Fit z := by
        intro i hi
        have hq : i / s < m := (Nat.div_lt_iff_lt_mul hs0).2 hi
        obtain ⟨cs', h1, h2⟩ := hx (i / s) hq
        obtain ⟨_, hlen, hcell⟩ := World.cells?_some h1
        have hr : i % s < s := Nat.mod_lt _ hs0
        obtain ⟨z, hz, hfz⟩ := elem_ints he hlen h2 (i % s) hr
        refine ⟨z, ?_, hfz⟩
        rw [← hz, ← hcell _ hr]
        congr 1
        have hi' : i / s * s + i % s = i := Nat.div_add_mod' i s
        rw [Addr.add_add, hi']
      obtain ⟨Z, hZ⟩ := Go.Deep.choose_lt each
      have hcap : m < 9223372036854775808 := by unfold maxLen at hm; omega
      obtain ⟨ρ', h', q1, q2, q3, q4⟩ := en.slice a len0 m (tab (m * s) fun i => i64 (if i < m * s then Z i else 0)) hl (by unfold U; omega) (fun h => by rw [tab_len]; exact Nat.mul_pos h hs0)
        (fun i v hi => by
          have hlt : i < m * s := by
            have := (List.getElem?_eq_some_iff.1 hi).1
            rw [tab_len] at this; exact this
          rw [tab_get hlt, if_pos hlt] at hi
          cases hi
          exact (hZ i hlt).1)
        (fun v hv => by
          simp only [tab, List.mem_map] at hv
          obtain ⟨i, _, rfl⟩ := hv
          exact .int _ _)
      refine ⟨ρ', h', _, q1, q2, q3, Or.inr ⟨n, len0, m, fun i => if i < m * s then Z i else 0, rfl, hl, hcap, fun h0 => ?_, fun i => ?_⟩, fun b hb => ?_⟩
      · rw [q4, H.get_set_same, if_neg (show ¬ m = 0 by omega), if_neg (show ¬ m = 0 by omega)]
      · dsimp only
        split
        · rename_i hi; exact (hZ i hi).2
        · unfold Fit; omega
      · rw [q4, H.get_set_ne _ _ (by omega)]
  · cases hk
/-- All arguments. -/
theorem args_enter {G : Nat} {base : Nat} : ∀ (ks : List AK) (ts : List TypeId) (vs : List Value) (ds : List (DataW H')) (p : List MemPlace) (n : Nat) (ρ : Map) (h : H), Entry G W n ρ h → argsT P ks ts = true →
    (∀ (j : Nat) t v, ts[j]? = some t → vs[j]? = some v → Value.okWide P W .any base t v) → DataW.TrodAll enc P W 0 (fun _ => true) true ts vs ds p →
    ∃ ρ' h' us, Entry G W (n + ks.length) ρ' h' ∧ Le ρ ρ' ∧ WL ρ' us vs ∧ ArgsAre h' ks us ∧ ∀ b, b < n → h'.get b = h.get b
  | [], ts, vs, ds, p, n, ρ, h, en, hk, hval, hd => by
    cases ts with
    | cons _ _ => cases hk
    | nil =>
      obtain ⟨rfl, _, _⟩ := trodAll_nil hd
      exact ⟨ρ, h, [], en, Le.refl _, WL.nil, trivial, fun _ _ => rfl⟩
  | k :: ks, ts, vs, ds, p, n, ρ, h, en, hk, hval, hd => by
    cases ts with
    | nil => cases hk
    | cons t ts =>
      simp only [argsT, Bool.and_eq_true] at hk
      obtain ⟨v, vs', d, ds', p1, q1, rfl, rfl, _, hd1, hd2⟩ := trodAll_cons hd
      obtain ⟨ρ1, h1, u, en1, le1, hv1, ha1, hk1⟩ := arg_enter en hk.1 (hval 0 t v rfl rfl) hd1
      obtain ⟨ρ2, h2, us, en2, le2, hv2, ha2, hk2⟩ := args_enter ks ts vs' ds' q1 (n + 1) ρ1 h1 en1 hk.2 (fun j t v ht hv => hval (j + 1) t v (by simpa using ht) (by simpa using hv)) hd2
      refine ⟨ρ2, h2, u :: us, ?_, le1.trans le2, WL.cons (hv1.mono le2) hv2, ⟨?_, ha2⟩, fun b hb => by rw [hk2 b (by omega), hk1 b hb]⟩
      · have : n + (k :: ks).length = n + 1 + ks.length := by simp; omega
        rw [this]; exact en2
      · -- what the first is, is so behind the others
        cases k with
        | int => exact ha1
        | bool => exact ha1
        | flat s =>
          rcases ha1 with rfl | ⟨b, len, cap, Z, rfl, g1, g2, g3, g4⟩
          · exact Or.inl rfl
          · refine Or.inr ⟨b, len, cap, Z, rfl, g1, g2, fun h0 => ?_, g4⟩
            have hb := g3 h0
            have : b < n + 1 := by
              rcases Nat.lt_or_ge b (n + 1) with g | g
              · exact g
              · rw [en1.fresh b g] at hb; cases hb
            rw [hk2 b this]; exact hb

/-- A law, out of what it comes to in the abstract machine. -/
theorem law_any {G g : Nat} {f : Func} {s : ChangeSpec} {apart fresh handsOn : Bool} {args : Array Value} {tb : TypeId} {ds gs : List (DataW H')} {before : List MemPlace} {m : List Value → M Value} {base : Nat}
    (hS : Sim P G g m) {n N : Nat} {ρ : Map} {h : H} (en : Entry G W n ρ h) {ks : List AK} (hks : argsT P ks f.params.toList = true) (hN : n + ks.length ≤ N)
    (hm : ∀ (h' : H) (us : List Value), Fr N h' → (∀ b, b < n → h'.get b = h.get b) → ArgsAre h' ks us → ∃ n' h'', (m us).run N h' = some (.bool true, n', h''))
    (hval : ∀ (j : Nat) t v, f.params[j]? = some t → args[j]? = some v → Value.okWide P W .any base t v)
    (hW : DataW.Whole enc P f.params.toList s.vars apart W args.toList ds gs before) (hvars : s.vars = []) (hfn : ds.length = ks.length → s.fn H' (ds ++ []) = { results := [.lit (.bool true)], args := ds })
    (hres : f.resultTypes = #[tb]) (hb : P.underlying tb = some .bool)
    (K : Kids P (· < P.types.size)) (hfull : ∀ t e, t < P.types.size → P.underlying t = some (.slice e) → 0 < P.cellsOf e) (hts : (f.params.toList.all fun t => decide (t < P.types.size)) = true) :
    Calls P g args W fun e W' => ∃ v, e = .returned v ∧ s.post enc P f apart fresh handsOn false W args v W' := by
  have hW0 := hW
  obtain ⟨p, q, h1, h2, h3, _, _⟩ := hW
  obtain ⟨ρ', h', us, en', _, hws, ha, hkeep⟩ := args_enter ks f.params.toList args.toList ds p n ρ h en hks (fun j t v ht hv => hval j t v (by simpa using ht) (by simpa using hv)) h1
  rw [hvars] at h2
  have hgs : gs = [] := by
    cases gs with
    | nil => rfl
    | cons _ _ => cases h2
  subst hgs
  have hlen : ds.length = ks.length := by
    have e1 : ∀ {ts : List TypeId} {vs : List Value} {ds : List (DataW H')} {p : List MemPlace}, DataW.TrodAll enc P W 0 (fun _ => true) true ts vs ds p → ds.length = ts.length := by
      intro ts
      induction ts with
      | nil => intro vs ds p h; obtain ⟨_, rfl, _⟩ := trodAll_nil h; rfl
      | cons t ts ih =>
        intro vs ds p h
        obtain ⟨_, _, _, _, _, _, _, rfl, _, _, h'⟩ := trodAll_cons h
        simp [ih h']
    have e2 : ∀ (ks : List AK) (ts : List TypeId), argsT P ks ts = true → ts.length = ks.length := by
      intro ks
      induction ks with
      | nil => intro ts h; cases ts with | nil => rfl | cons _ _ => cases h
      | cons k ks ih =>
        intro ts h
        cases ts with
        | nil => cases h
        | cons t ts => simp only [argsT, Bool.and_eq_true] at h; simp [ih ts h.2]
    rw [e1 h1, e2 ks _ hks]
  obtain ⟨n', h'', e⟩ := hm h' us (fun b hb => en'.fresh b (by omega)) hkeep ha
  exact law_calls hS (en'.more hN) hws e hW0 hvars (hfn hlen) hres hb K hfull hts

end

/-! ## Pairs of numbers that came in -/

end Go.Fw
end
section
namespace Go.Fw

def baseH (cs : List Value) : H := H.leaf.set 0 ⟨cs, .ro⟩

theorem Entry.table {W : World} {cs : List Value} (hne : cs ≠ []) (hc : ∀ i v, cs[i]? = some v → W.cell? ⟨0, i, none⟩ = some v) (hv : ∀ v ∈ cs, VR (fun _ => none) v v) :
    Entry 1 W 1 (fun b => if b = 0 then some ⟨0, 0, cs.length⟩ else none) (baseH cs) := by
  have hget : ∀ b, (baseH cs).get b = if b = 0 then some ⟨cs, .ro⟩ else none := fun b => by
    unfold baseH; rw [H.get_set]; split <;> rfl
  have hpos : 0 < cs.length := List.length_pos_iff.2 hne
  -- the block
  obtain ⟨arr, elem, fz, hb⟩ : ∃ arr elem fz, W.heap[0]? = some (.cells arr elem fz) := by
    have h0 := hc 0 cs[0] (by simp [hpos])
    unfold World.cell? at h0
    split at h0
    · exact ⟨_, _, _, by assumption⟩
    · cases h0
  have hcell : ∀ i v, cs[i]? = some v → arr[i]? = some v := fun i v hi => by
    have := hc i v hi
    unfold World.cell? at this
    simp only [hb] at this
    simpa using this
  have hsz : cs.length ≤ arr.size := by
    have := hcell (cs.length - 1) cs[cs.length - 1] (by simp [hpos])
    have := (Array.getElem?_eq_some_iff.1 this).1
    omega
  refine ⟨⟨fun b => ?_, fun g hg => ⟨cs.length, by rw [if_pos (by omega)]; congr 2; omega⟩, fun b B L hB hl hL => ?_, fun b c B C L M _ _ hC _ hm => ?_, fun b B L hB hm => ?_, fun b c B C L M _ hB _ hm => ?_⟩, fun b B hB => ?_, fun b hb => ?_⟩
  rotate_left 3
  · rw [hget] at hB
    split at hB
    · cases hB; exact absurd (.inr hm) (not_ours_ro _)
    · cases hB
  · rw [hget] at hB
    split at hB
    · cases hB; exact absurd (.inr hm) (not_ours_ro _)
    · cases hB
  rotate_left 2
  · rw [hget]; split <;> rfl
  · rw [hget] at hB
    split at hB
    · cases hB
      rename_i e
      subst e
      simp only [if_true, Option.some.injEq] at hL
      subst hL
      exact ⟨⟨arr, elem, fz, hb, fun h => absurd h (not_mine_ro _), hsz, fun i v hi => ⟨v, by rw [Nat.zero_add]; exact hcell i v hi, (hv v (List.mem_of_getElem? hi)).mono fun _ _ h => by cases h⟩⟩, by simp, fun h => by cases h⟩
    · cases hB
  · rw [hget] at hC
    split at hC
    · cases hC; exact absurd hm (not_mine_ro _)
    · cases hC
  · rw [hget] at hB
    split at hB
    · cases hB; exact not_ours_ro _
    · cases hB
  · rw [hget, if_neg (by omega)]

end Go.Fw
end
section
namespace Go.Fw

def baseH2 (cs : List Value) : H := (H.leaf.set 0 ⟨[], .dead⟩).set 1 ⟨cs, .ro⟩
theorem baseH2_get (cs : List Value) (b : Nat) : (baseH2 cs).get b = if b = 1 then some ⟨cs, .ro⟩ else if b = 0 then some ⟨[], .dead⟩ else none := by
  unfold baseH2
  rw [H.get_set, H.get_set]
  rfl

theorem Entry.table2 {W : World} {cs : List Value} (hne : cs ≠ []) (hc : ∀ i v, cs[i]? = some v → W.cell? ⟨1, i, none⟩ = some v) (hv : ∀ v ∈ cs, VR (fun _ => none) v v) :
    Entry 2 W 2 (fun b => if b = 1 then some ⟨1, 0, cs.length⟩ else if b = 0 then some ⟨0, 0, 0⟩ else none) (baseH2 cs) := by
  have hpos : 0 < cs.length := List.length_pos_iff.2 hne
  -- the block
  obtain ⟨arr, elem, fz, hb⟩ : ∃ arr elem fz, W.heap[1]? = some (.cells arr elem fz) := by
    have h0 := hc 0 cs[0] (by simp [hpos])
    unfold World.cell? at h0
    split at h0
    · exact ⟨_, _, _, by assumption⟩
    · cases h0
  have hcell : ∀ i v, cs[i]? = some v → arr[i]? = some v := fun i v hi => by
    have := hc i v hi
    unfold World.cell? at this
    simp only [hb] at this
    simpa using this
  have hsz : cs.length ≤ arr.size := by
    have := hcell (cs.length - 1) cs[cs.length - 1] (by simp [hpos])
    have := (Array.getElem?_eq_some_iff.1 this).1
    omega
  have see : ∀ b B, (baseH2 cs).get b = some B → (b = 1 ∧ B = ⟨cs, .ro⟩) ∨ (b = 0 ∧ B = ⟨[], .dead⟩) := fun b B hB => by
    rw [baseH2_get] at hB
    split at hB
    · cases hB; exact .inl ⟨by assumption, rfl⟩
    · split at hB
      · cases hB; exact .inr ⟨by assumption, rfl⟩
      · cases hB
  have notOurs : ∀ b B, (baseH2 cs).get b = some B → ¬ B.ours := fun b B hB => by
    rcases see b B hB with ⟨_, rfl⟩ | ⟨_, rfl⟩
    · exact not_ours_ro _
    · exact not_ours_dead
  refine ⟨⟨fun b => ?_, fun g hg => ?_, fun b B L hB hl hL => ?_, fun b c B C L M _ _ hC _ hm => ?_, fun b B L hB hm => ?_, fun b c B C L M _ hB _ hm => ?_⟩, notOurs, fun b hb => ?_⟩
  · rw [baseH2_get]
    by_cases h1 : b = 1
    · rw [if_pos h1, if_pos h1]; rfl
    · rw [if_neg h1, if_neg h1]
      by_cases h0 : b = 0
      · rw [if_pos h0, if_pos h0]; rfl
      · rw [if_neg h0, if_neg h0]; rfl
  · by_cases h1 : g = 1
    · subst h1; exact ⟨cs.length, by rw [if_pos rfl]⟩
    · have h0 : g = 0 := by omega
      subst h0
      exact ⟨0, by rw [if_neg (by omega), if_pos rfl]⟩
  · rcases see b B hB with ⟨rfl, rfl⟩ | ⟨rfl, rfl⟩
    · simp only [if_true, Option.some.injEq] at hL
      subst hL
      exact ⟨⟨arr, elem, fz, hb, fun h => absurd h (not_mine_ro _), hsz, fun i v hi => ⟨v, by rw [Nat.zero_add]; exact hcell i v hi, (hv v (List.mem_of_getElem? hi)).mono fun _ _ h => by cases h⟩⟩, by simp, fun h => by cases h⟩
    · exact absurd rfl hl
  · exact absurd (.inl hm) (notOurs c C hC)
  · exact absurd (.inr hm) (notOurs b B hB)
  · exact absurd (.inr hm) (notOurs b B hB)
  · rw [baseH2_get, if_neg (by omega), if_neg (by omega)]

/-- The cells of a listed table of bytes. -/
theorem table_cells_met {P : Program} {W : World} {nm : String} {g t e : Nat} {ns : List Nat} (hg0 : P.globalNamed nm = some g) (ht0 : (P.globals[g]?).map (·.type) = some t) (hu : P.underlying t = some (.array ns.length e)) (hc : P.cellsOf e = 1) (he : P.underlying e = some (.int .u8))
    (h : laidMet P [(nm, .agg (ns.map fun n : Nat => .lit (.int .u8 (n : Int))))] W) :
    ∀ i v, (ns.map fun n : Nat => Value.int .u8 (n : Int))[i]? = some v → W.cell? ⟨g, i, none⟩ = some v := by
  obtain ⟨ps, ⟨g0, t0, cs0, f0, p0, q0, hg, ht, hv0, hd0, _⟩, _⟩ := h
  obtain rfl := Option.some.inj (hg0.symm.trans hg)
  obtain rfl := Option.some.inj (ht0.symm.trans ht)
  obtain ⟨xs, m, rfl, hx1, hlen, hn, hel⟩ := DataW.trod_array hu hd0
  intro i v hi
  simp only [Prod.mk.injEq, DataW.agg.injEq] at hx1
  have hil : i < ns.length := by
    have := (List.getElem?_eq_some_iff.1 hi).1
    simpa using this
  have h1 := hel i hil
  obtain ⟨y, hy⟩ : ∃ y, xs[i]? = some y := ⟨xs[i]'(by omega), by simp [hn, hil]⟩
  rw [hc, Nat.mul_one, hy] at h1
  obtain ⟨z, e1, e2, _⟩ := DataW.trod_int he h1
  have h2 : (ns.map fun n : Nat => (DataW.lit (.int .u8 (n : Int)) : DataW Unit))[i]? = some y.1 := by
    rw [hx1.1]; simp [hy]
  have hz : ns[i]? = some ns[i] := by simp [hil]
  simp only [List.getElem?_map, hz, Option.map_some, Option.some.injEq] at h2 hi
  rw [e2] at h2
  simp only [DataW.lit.injEq, Lit.int.injEq, true_and] at h2
  subst hi
  have h3 : (cs0.toList)[i]? = some (.int .u8 z) := by
    have h0 : ((cs0.toList.drop i).take 1)[0]? = some (Value.int .u8 z) := by rw [e1]; rfl
    simpa [List.getElem?_take, List.getElem?_drop] using h0
  have h4 := World.var?_cell hg hv0 i
  rw [h4]
  rw [← h2] at h3
  simpa using h3

end Go.Fw
end
