/-
  The law's lists: of, without, said of the abstract machine; that they are the sets' lists.
-/
import Derived.Test.YtbkppkekgdnilaaDoorLawSetF
import Derived.Test.YtbkppkekgdnilaaDoorLawRef
set_option maxRecDepth 20000
namespace Go.Fw

theorem sorted_extI {l l' : List Int} (h1 : l.Pairwise (· < ·)) (h2 : l'.Pairwise (· < ·)) (h : ∀ m, m ∈ l ↔ m ∈ l') : l = l' := by
  induction l generalizing l' with
  | nil =>
    match l' with
    | [] => rfl
    | a :: l' => exact absurd ((h a).2 List.mem_cons_self) (by simp)
  | cons a l ih =>
    match l' with
    | [] => exact absurd ((h a).1 List.mem_cons_self) (by simp)
    | b :: l' =>
      rw [List.pairwise_cons] at h1 h2
      have hab : a = b := by
        have q1 := (h a).1 List.mem_cons_self
        have q2 := (h b).2 List.mem_cons_self
        rw [List.mem_cons] at q1 q2
        rcases q1 with q1 | q1
        · exact q1
        · rcases q2 with q2 | q2
          · exact q2.symm
          · have := h1.1 b q2; have := h2.1 a q1; omega
      subst hab
      rw [ih h1.2 h2.2 fun m => ?_]
      have q := h m
      rw [List.mem_cons, List.mem_cons] at q
      constructor
      · intro hm
        rcases q.1 (.inr hm) with rfl | h3
        · exact absurd (h1.1 m hm) (Int.lt_irrefl _)
        · exact h3
      · intro hm
        rcases q.2 (.inr hm) with rfl | h3
        · exact absurd (h2.1 m hm) (Int.lt_irrefl _)
        · exact h3

theorem ins_mem {z y : Int} {L : List Int} : y ∈ ins z L ↔ y = z ∨ y ∈ L := by
  unfold ins
  have e : y ∈ L ↔ y ∈ L.takeWhile (· < z) ∨ y ∈ L.dropWhile (· < z) := by
    rw [← List.mem_append, List.takeWhile_append_dropWhile]
  rw [List.mem_append, List.mem_cons, e]
  constructor
  · rintro (h | h | h)
    · exact .inr (.inl h)
    · exact .inl h
    · exact .inr (.inr h)
  · rintro (h | h | h)
    · exact .inr (.inl h)
    · exact .inl h
    · exact .inr (.inr h)
theorem putI_mem {z y : Int} {L : List Int} : y ∈ putI L z ↔ y = z ∨ y ∈ L := by
  unfold putI
  split
  · exact ⟨.inr, fun h => h.elim (fun h => by subst h; assumption) id⟩
  · exact ins_mem

theorem ins_sorted {z : Int} : ∀ {L : List Int}, L.Pairwise (· < ·) → z ∉ L → (ins z L).Pairwise (· < ·)
  | [], _, _ => by simp [ins]
  | a :: L, h, hz => by
    have hne : z ≠ a := fun e => hz (by rw [e]; exact List.mem_cons_self)
    rw [List.pairwise_cons] at h
    by_cases ha : a < z
    · have e : ins z (a :: L) = a :: ins z L := by
        unfold ins
        rw [List.takeWhile_cons_of_pos (by simpa using ha), List.dropWhile_cons_of_pos (by simpa using ha)]; rfl
      rw [e, List.pairwise_cons]
      refine ⟨fun y hy => ?_, ins_sorted h.2 fun q => hz (List.mem_cons_of_mem _ q)⟩
      rcases ins_mem.1 hy with rfl | hy
      · exact ha
      · exact h.1 y hy
    · have e : ins z (a :: L) = z :: a :: L := by
        unfold ins
        rw [List.takeWhile_cons_of_neg (by simpa using ha), List.dropWhile_cons_of_neg (by simpa using ha)]; rfl
      rw [e, List.pairwise_cons]
      refine ⟨fun y hy => ?_, List.pairwise_cons.2 h⟩
      rcases List.mem_cons.1 hy with rfl | hy
      · omega
      · have := h.1 y hy; omega
theorem putI_sorted {z : Int} {L : List Int} (h : L.Pairwise (· < ·)) : (putI L z).Pairwise (· < ·) := by
  unfold putI
  split
  · exact h
  · exact ins_sorted h (by assumption)
theorem putI_len {z : Int} {L : List Int} : (putI L z).length ≤ L.length + 1 := by
  unfold putI
  split
  · omega
  · unfold ins
    have e : (L.takeWhile (· < z) ++ L.dropWhile (· < z)).length = L.length := by rw [List.takeWhile_append_dropWhile]
    rw [List.length_append] at e ⊢
    rw [List.length_cons]; omega

/-! ## of -/

def ofStep (L : List Int) (z : Int) : List Int := if 0 ≤ z ∧ z < 5000 then putI L z else L
def ofI (zs : List Int) : List Int := (zs.take 40).foldl ofStep []

theorem ofStep_len {L : List Int} {z : Int} : (ofStep L z).length ≤ L.length + 1 := by
  unfold ofStep; split
  · exact putI_len
  · omega
theorem foldl_len : ∀ (zs L : List Int), (zs.foldl ofStep L).length ≤ L.length + zs.length
  | [], L => by simp
  | z :: zs, L => by
    have h1 := foldl_len zs (ofStep L z)
    have h2 := ofStep_len (L := L) (z := z)
    rw [List.foldl_cons, List.length_cons]; omega
theorem foldl_sorted : ∀ (zs L : List Int), L.Pairwise (· < ·) → (zs.foldl ofStep L).Pairwise (· < ·)
  | [], _, h => h
  | z :: zs, L, h => foldl_sorted zs _ (by
    unfold ofStep; split
    · exact putI_sorted h
    · exact h)
theorem foldl_mem : ∀ (zs L : List Int) (y : Int), y ∈ zs.foldl ofStep L ↔ y ∈ L ∨ (y ∈ zs ∧ 0 ≤ y ∧ y < 5000)
  | [], L, y => by simp
  | z :: zs, L, y => by
    rw [List.foldl_cons, foldl_mem zs, List.mem_cons]
    unfold ofStep
    split
    · rw [putI_mem]
      constructor
      · rintro ((rfl | h) | h)
        · exact .inr ⟨.inl rfl, by assumption⟩
        · exact .inl h
        · exact .inr ⟨.inr h.1, h.2⟩
      · rintro (h | ⟨rfl | h, h2⟩)
        · exact .inl (.inr h)
        · exact .inl (.inl rfl)
        · exact .inr ⟨h, h2⟩
    · constructor
      · rintro (h | h)
        · exact .inl h
        · exact .inr ⟨.inr h.1, h.2⟩
      · rintro (h | ⟨rfl | h, h2⟩)
        · exact .inl h
        · exact absurd h2 (by assumption)
        · exact .inr ⟨h, h2⟩

theorem of_l1' {F lo : Nat} {v : Value} {zs : List Int} (hF : 100 < F) (hlo : 8 ≤ lo) {E : Value → M Value} : ∀ j i k n (h : H) (u : Value), 40 ≤ i + j → j < k → IntsA h v zs → NewI h lo u ((zs.take i).foldl ofStep []) → i ≤ 40 → Fr n h → lo ≤ n →
    ∃ n' h' u', (L1_of_l1 F E k v u (i64 i)).run n h = (E u').run n' h' ∧ NewI h' lo u' (ofI zs) ∧ Ev No n h n' h' := by
  have stop : ∀ i k n (h : H) (u : Value), IntsA h v zs → NewI h lo u ((zs.take i).foldl ofStep []) → Fr n h → i ≤ 40 → (40 ≤ i ∨ zs.length ≤ i) → 
    ∃ n' h' u', (L1_of_l1 F E (k + 1) v u (i64 i)).run n h = (E u').run n' h' ∧ NewI h' lo u' (ofI zs) ∧ Ev No n h n' h' := by
    intro i k n h u hv g f hi hs
    have e : ofI zs = (zs.take i).foldl ofStep [] := by
      unfold ofI
      rcases hs with h1 | h1
      · rw [show i = 40 by omega]
      · rw [List.take_of_length_le (by omega), List.take_of_length_le h1]
    rw [L1_of_l1_s]
    unfold L1_of_b1 L1_of_r3
    rw [hv.rd.len, List.length_map]
    simp only [st_lss, onB_ite, run_ite, decide_eq_true_eq]
    rw [e]
    by_cases h1 : (i : Int) < zs.length
    · rw [if_pos h1, if_neg (by omega)]
      exact ⟨n, h, u, rfl, g, Ev.refl f⟩
    · rw [if_neg h1, if_neg (by decide)]
      exact ⟨n, h, u, rfl, g, Ev.refl f⟩
  intro j
  induction j with
  | zero =>
    intro i k n h u hij hk hv g hi f hn
    obtain ⟨k, rfl⟩ : ∃ j, k = j + 1 := ⟨k - 1, by omega⟩
    exact stop i k n h u hv g f hi (.inl hij)
  | succ j ih =>
    intro i k n h u hij hk hv g hi f hn
    obtain ⟨k, rfl⟩ : ∃ j, k = j + 1 := ⟨k - 1, by omega⟩
    by_cases hs : 40 ≤ i ∨ zs.length ≤ i
    · exact stop i k n h u hv g f hi hs
    have h1 : i < zs.length := by omega
    rw [L1_of_l1_s]
    unfold L1_of_b1 L1_of_r3
    rw [hv.rd.len, List.length_map]
    simp only [st_lss, onB_ite, run_ite, decide_eq_true_eq]
    rw [if_pos (by omega), if_pos (by omega)]
    unfold L1_of_r5
    have gv : RdI h v zs := hv.rd
    rw [gv.getI h1, run_bnd (may_spec _)]
    simp only [onB_ite, run_ite, decide_eq_true_eq]
    have e1 : (zs.take (i + 1)).foldl ofStep [] = ofStep ((zs.take i).foldl ofStep []) zs[i] := by
      rw [List.take_succ_eq_append_getElem h1, List.foldl_append]; rfl
    by_cases hm : 0 ≤ zs[i] ∧ zs[i] < 5000
    · rw [if_pos hm]
      unfold L1_of_r6
      rw [gv.getI h1]
      have hlen := foldl_len (zs.take i) []
      rw [List.length_take, List.length_nil] at hlen
      obtain ⟨n1, g1, u1, e2, y1, ev1⟩ := rput_spec (F := F) g f hn (by omega) (by omega) zs[i]
      rw [run_bnd e2]
      unfold L1_of_k2 L1_of_r4
      dsimp only
      rw [sx_add (by omega)]
      obtain ⟨n', h', u', q1, q2, q3⟩ := ih (i + 1) k n1 g1 u1 (by omega) (by omega) (hv.keep fun c hc => ev1.no (by omega)) (by rw [e1]; unfold ofStep; rw [if_pos hm]; exact y1) (by omega) ev1.f (by have := ev1.le; omega)
      exact ⟨n', h', u', q1, q2, ev1.trans q3 fun _ _ h => h⟩
    · rw [if_neg hm]
      unfold L1_of_k2 L1_of_r4
      dsimp only
      rw [sx_add (by omega)]
      exact ih (i + 1) k n h u (by omega) (by omega) hv (by rw [e1]; unfold ofStep; rw [if_neg hm]; exact g) (by omega) f hn

theorem lof_spec {F n : Nat} {h : H} {v : Value} {zs : List Int} (hF : 100 < F) (hn : 8 ≤ n) (hv : IntsA h v zs) (f : Fr n h) :
    ∃ n' h' u, (L1_of F v).run n h = some (u, n', h') ∧ NewI h' n u (ofI zs) ∧ Ev No n h n' h' := by
  unfold L1_of L1_of_r0 L1_of_r1 L1_of_r2
  dsimp only
  obtain ⟨n', h', u', q1, q2, q3⟩ := of_l1' (F := F) (lo := n) (zs := zs) hF hn (E := fun x3 => L1_of_k0 F x3) 40 0 F n h nsl (by omega) (by omega) hv NewI.nil (by omega) f (Nat.le_refl _)
  exact ⟨n', h', u', q1.trans rfl, q2, q3⟩

/-! ## without -/

theorem wo_l1 {F lo : Nat} {v v' : Value} {zs ys : List Int} (hl : zs.length ≤ 1099511627775) (hl' : ys.length < F) (hl2 : ys.length ≤ 1099511627775) {h0 : H} (f0 : Fr lo h0) (gz : RdI h0 v zs) (gy : RdI h0 v' ys) {E : Value → M Value} : ∀ j i k n (h : H) (u : Value), i + j = zs.length → j < k → (∀ c, c < lo → h.get c = h0.get c) → NewI h lo u ((zs.take i).filter (fun z => z ∉ ys)) → Fr n h → lo ≤ n →
    ∃ n' h' u', (L1_without_l1 F E k v v' u (i64 i)).run n h = (E u').run n' h' ∧ NewI h' lo u' (zs.filter (fun z => z ∉ ys)) ∧ Ev (fun c => lo ≤ c) n h n' h' := by
  intro j
  induction j with
  | zero =>
    intro i k n h u hij hk hh g f hn
    obtain ⟨k, rfl⟩ : ∃ j, k = j + 1 := ⟨k - 1, by omega⟩
    rw [L1_without_l1_s]
    unfold L1_without_b1 L1_without_r3
    rw [(gz.kept f0 hh).lenI]
    simp only [st_lss, onB_ite, run_ite, decide_eq_true_eq]
    rw [if_neg (by omega)]
    rw [List.take_of_length_le (by omega)] at g
    exact ⟨n, h, u, rfl, g, Ev.refl f⟩
  | succ j ih =>
    intro i k n h u hij hk hh g f hn
    obtain ⟨k, rfl⟩ : ∃ j, k = j + 1 := ⟨k - 1, by omega⟩
    have hi : i < zs.length := by omega
    have gz1 : RdI h v zs := gz.kept f0 hh
    have gy1 : RdI h v' ys := gy.kept f0 hh
    rw [L1_without_l1_s]
    unfold L1_without_b1 L1_without_r3
    rw [gz1.lenI]
    simp only [st_lss, onB_ite, run_ite, decide_eq_true_eq]
    rw [if_pos (by omega)]
    unfold L1_without_r5
    rw [gz1.getI hi, run_bnd (rin_spec gy1 hl' (by omega) _), st_not]
    simp only [onB_ite, run_ite]
    have e1 : (zs.take (i + 1)).filter (fun z => z ∉ ys) = (zs.take i).filter (fun z => z ∉ ys) ++ (if zs[i] ∈ ys then [] else [zs[i]]) := by
      rw [List.take_succ_eq_append_getElem hi, List.filter_append]
      congr 1
      by_cases hm : zs[i] ∈ ys
      · rw [if_pos hm, List.filter_cons_of_neg (by simpa using hm)]; rfl
      · rw [if_neg hm, List.filter_cons_of_pos (by simpa using hm)]; rfl
    by_cases hm : zs[i] ∈ ys
    · rw [if_neg (by simpa using hm)]
      rw [if_pos hm, List.append_nil] at e1
      unfold L1_without_k2 L1_without_r4
      dsimp only
      rw [sx_add (by omega)]
      exact ih (i + 1) k n h u (by omega) (by omega) hh (by rw [e1]; exact g) f hn
    · rw [if_pos (by simpa using hm)]
      rw [if_neg hm] at e1
      unfold L1_without_r6
      have hlen : ((zs.take i).filter (fun z => z ∉ ys)).length ≤ i := by
        have := List.length_filter_le (fun z => decide (z ∉ ys)) (zs.take i)
        rw [List.length_take] at this; omega
      obtain ⟨h1, u1, e2, y1, ev1⟩ := g.push (β := Value) (y := 0) (z := zs[i]) f hn (by omega)
      rw [gz1.getI hi, show (Value.int .i64 0) = i64 0 from rfl, e2]
      unfold L1_without_k2 L1_without_r4
      dsimp only
      rw [sx_add (by omega)]
      obtain ⟨n', h', u', q1, q2, q3⟩ := ih (i + 1) k (n + 2) h1 u1 (by omega) (by omega) (fun c hc => by rw [ev1.keep c (by omega) (by omega), hh c hc]) (by rw [e1]; exact y1) ev1.f (by omega)
      exact ⟨n', h', u', q1, q2, ev1.trans q3 fun _ _ h => h⟩

theorem wo_spec {F n : Nat} {h : H} {v v' : Value} {zs ys : List Int} (hl : zs.length < F) (hl1 : zs.length ≤ 1099511627775) (hl' : ys.length < F) (hl2 : ys.length ≤ 1099511627775) (gz : RdI h v zs) (gy : RdI h v' ys) (f : Fr n h) :
    ∃ n' h' u, (L1_without F v v').run n h = some (u, n', h') ∧ NewI h' n u (zs.filter (fun z => z ∉ ys)) ∧ Ev No n h n' h' := by
  unfold L1_without L1_without_r0 L1_without_r1 L1_without_r2
  dsimp only
  obtain ⟨n', h', u', q1, q2, q3⟩ := wo_l1 (F := F) (lo := n) (zs := zs) (ys := ys) hl1 hl' hl2 f gz gy (E := fun x3 => L1_without_k0 F x3) zs.length 0 F n h nsl (by omega) hl (fun _ _ => rfl) NewI.nil f (Nat.le_refl _)
  exact ⟨n', h', u', q1.trans rfl, q2, q3.f, q3.le, fun c hc _ => q3.keep c hc (by omega)⟩

/-! ## The lists are the sets' lists -/

theorem setL_memS {s : Nat → Bool} (x : ∀ m, s m = true → m < 5000) {m : Nat} : m ∈ setL s ↔ s m = true := by
  unfold setL upTo
  rw [List.mem_filter, List.mem_range]
  exact ⟨fun h => h.2, fun h => ⟨by have := x m h; omega, h⟩⟩
theorem ints_mem {s : Nat → Bool} (x : ∀ m, s m = true → m < 5000) {z : Int} : z ∈ ints (setL s) ↔ 0 ≤ z ∧ s z.toNat = true := by
  rw [ints, List.mem_map]
  constructor
  · rintro ⟨m, hm, rfl⟩
    rw [setL_memS x] at hm
    exact ⟨by omega, by rw [Int.toNat_natCast]; exact hm⟩
  · rintro ⟨h1, h2⟩
    exact ⟨z.toNat, (setL_memS x).2 h2, by omega⟩
theorem ints_sorted {s : Nat → Bool} : (ints (setL s)).Pairwise (· < ·) := by
  rw [ints, List.pairwise_map]
  exact setL_sorted.imp fun h => by omega

theorem setOf_iff {zs : List Int} {m : Nat} : setOf zs m = true ↔ (m : Int) ∈ zs ∧ m < 5000 := by
  unfold setOf
  rw [Bool.and_eq_true, decide_eq_true_eq, List.any_eq_true]
  constructor
  · rintro ⟨⟨z, h1, h2⟩, h3⟩
    have : z = (m : Int) := by simpa using h2
    subst this; exact ⟨h1, h3⟩
  · rintro ⟨h1, h2⟩
    exact ⟨⟨m, h1, by simp⟩, h2⟩

theorem setOf_small {zs : List Int} : ∀ m, setOf zs m = true → m < 5000 := fun m h => (setOf_iff.1 h).2
theorem ofI_set {zs : List Int} (hl : zs.length ≤ 40) : ofI zs = ints (setL (setOf zs)) := by
  refine sorted_extI (foldl_sorted _ _ List.Pairwise.nil) ints_sorted fun y => ?_
  unfold ofI
  rw [List.take_of_length_le hl, foldl_mem, ints_mem setOf_small, setOf_iff]
  simp only [List.not_mem_nil, false_or]
  constructor
  · rintro ⟨h1, h2, h3⟩; exact ⟨h2, by rw [Int.toNat_of_nonneg h2]; exact h1, by omega⟩
  · rintro ⟨h1, h2, h3⟩; rw [Int.toNat_of_nonneg h1] at h2; exact ⟨h2, h1, by omega⟩

theorem wo_set {s s' : Nat → Bool} (x' : ∀ m, s' m = true → m < 5000) : (ints (setL s)).filter (fun z => z ∉ ints (setL s')) = ints (setL fun m => s m && !s' m) := by
  have : (fun z : Int => decide (z ∉ ints (setL s'))) = fun z => !(decide (0 ≤ z) && s' z.toNat) := by
    funext z
    rw [decide_not]
    congr 1
    rw [Bool.eq_iff_iff, decide_eq_true_eq, ints_mem x', Bool.and_eq_true, decide_eq_true_eq]
  rw [this]
  unfold ints setL upTo
  rw [List.filter_map, List.filter_filter]
  congr 1
  apply List.filter_congr
  intro m _
  simp only [Function.comp]
  rw [Int.toNat_natCast, decide_eq_true (by omega), Bool.true_and, Bool.and_comm]

/-- In what one has more, one bit. -/
theorem count_put {s : Nat → Bool} {a : Nat} (ha : s a = false) : ∀ N, ((List.range N).filter (putS s a)).length = ((List.range N).filter s).length + if a < N then 1 else 0
  | 0 => rfl
  | N + 1 => by
    rw [List.range_succ, List.filter_append, List.filter_append, List.length_append, List.length_append, count_put ha N]
    by_cases e : N = a
    · subst e
      rw [List.filter_cons_of_pos (by unfold putS; simp), List.filter_cons_of_neg (by rw [ha]; decide), if_neg (by omega), if_pos (by omega)]
      simp
    · have e2 : putS s a N = s N := by unfold putS; rw [decide_eq_false e, Bool.or_false]
      cases hs : s N with
      | true =>
        rw [List.filter_cons_of_pos (by rw [e2, hs]), List.filter_cons_of_pos hs]
        by_cases h : a < N
        · rw [if_pos h, if_pos (by omega)]; simp
          try omega
        · rw [if_neg h, if_neg (by omega)]; simp
      | false =>
        rw [List.filter_cons_of_neg (by rw [e2, hs]; decide), List.filter_cons_of_neg (by rw [hs]; decide)]
        by_cases h : a < N
        · rw [if_pos h, if_pos (by omega)]; simp
        · rw [if_neg h, if_neg (by omega)]; simp
theorem setL_put {s : Nat → Bool} {a : Nat} (ha : s a = false) (hl : a < 5000) : (setL (putS s a)).length = (setL s).length + 1 := by
  unfold setL upTo
  rw [count_put ha, if_pos (by omega)]

/-! ## SetPairs -/

theorem pairs_run {F : Nat} (hF : 5200 < F) (hbg : gaveTrue ((L1_begun F).run 8 (baseH deB)) = true) (hbk : (((L1_begun F).run 8 (baseH deB)).map fun x => x.2.2.get 0) = some (some ⟨deB, .ro⟩)) (h : H) (us : List Value) (f : Fr 8 h) (hb : h.get 0 = some ⟨deB, .ro⟩) (ha : ArgsAre h [.flat 1, .flat 1] us) :
    ∃ n' h', (L1_SetPairs_m F us).run 8 h = some (.bool true, n', h') := by
  obtain ⟨va, vb, rfl, hva, hvb⟩ := args2 ha
  obtain ⟨az, hva, hla⟩ := hva.ints f
  obtain ⟨bz, hvb, hlb⟩ := hvb.ints f
  show ∃ n' h', (L1_SetPairs F va vb).run 8 h = some (.bool true, n', h')
  unfold L1_SetPairs L1_SetPairs_r0 L1_SetPairs_r1
  obtain ⟨n1, h1, e1, f1, g1, k1⟩ := run_over_true hbg hbk f hb
  rw [run_bnd e1]
  unfold L1_SetPairs_r2
  simp only [st_not, onB_ite, Bool.not_true, Bool.false_eq_true, if_false]
  have hva1 := hva.keep k1
  have hvb1 := hvb.keep k1
  have hb1 : h1.get 0 = some ⟨deB, .ro⟩ := by rw [k1 0 (by omega)]; exact hb
  unfold L1_SetPairs_r4
  obtain ⟨va', ea, ha'⟩ := cut_spec (F := F) (n := n1) hva1 hla 40 (by decide)
  obtain ⟨vb', eb, hb'⟩ := cut_spec (F := F) (n := n1) hvb1 hlb 40 (by decide)
  rw [show (Value.int .i64 40) = i64 ((40 : Nat) : Int) from rfl, run_bnd ea, run_bnd eb]
  have hal : (az.take 40).length ≤ 40 := by rw [List.length_take]; omega
  have hbl : (bz.take 40).length ≤ 40 := by rw [List.length_take]; omega
  generalize az.take 40 = az at *
  generalize bz.take 40 = bz at *
  have F1 : 100 < F := by omega
  unfold L1_SetPairs_r5
  obtain ⟨n2, h2, e2, x, ev2⟩ := at_of (F := F) F1 g1 (by omega) (by omega) ha' f1
  have l2 := ev2.le
  dsimp only
  rw [run_bnd e2]
  obtain ⟨n3, h3, e3, y, ev3⟩ := at_of (F := F) F1 (by omega) (by omega) (by omega) (hb'.keep fun c hc => ev2.no (by omega)) ev2.f
  have l3 := ev3.le
  rw [run_bnd e3]
  have x := (x.kept ev3 (Nat.le_refl _)).mono (Nat.zero_le _) l3
  have y := y.mono (Nat.zero_le _) (Nat.le_refl _)
  unfold L1_SetPairs_r6
  dsimp only
  obtain ⟨n4, h4, vl, e4, gl, ev4⟩ := lof_spec (F := F) F1 (by omega) (ha'.keep fun c hc => by rw [ev3.no (by omega), ev2.no (by omega)]) ev3.f
  have l4 := ev4.le
  rw [run_bnd e4]
  have x := x.kept ev4 (Nat.le_refl _)
  have y := y.kept ev4 (Nat.le_refl _)
  obtain ⟨n5, h5, vm, e5, gm, ev5⟩ := lof_spec (F := F) F1 (by omega) (hb'.keep fun c hc => by rw [ev4.no (by omega), ev3.no (by omega), ev2.no (by omega)]) ev4.f
  have l5 := ev5.le
  rw [run_bnd e5]
  have x := x.kept ev5 l4
  have y := y.kept ev5 l4
  rw [ofI_set hal] at gl
  rw [ofI_set hbl] at gm
  have gl := gl.rd.kept ev4.f fun c hc => ev5.no hc
  have gm := gm.rd
  generalize hsx : setOf az = sx at *
  generalize hsy : setOf bz = sy at *
  have xs : ∀ m, sx m = true → m < 5000 := fun m hm => x.small hm
  have ys : ∀ m, sy m = true → m < 5000 := fun m hm => y.small hm
  have len : ∀ s, (ints (setL s)).length ≤ 5120 := fun s => by
    unfold ints setL
    have := upTo_len (s := s) (k := 80)
    rw [List.length_map]; omega
  have lx := len sx
  have ly := len sy
  unfold L1_SetPairs_r7
  dsimp only
  obtain ⟨n6, h6, v6, e6, g6, ev6⟩ := wo_spec (F := F) (by omega) (by omega) (by omega) (by omega) gl gm ev5.f
  have l6 := ev6.le
  rw [run_bnd e6]
  rw [wo_set ys] at g6
  have ds : ∀ m, (sx m && !sy m) = true → m < 5000 := fun m hm => by
    rw [Bool.and_eq_true] at hm; exact xs m hm.1
  have ld := len fun m => sx m && !sy m
  have gl6 := gl.kept ev5.f fun c hc => ev6.no hc
  have gm6 := gm.kept ev5.f fun c hc => ev6.no hc
  have x := x.kept ev6 (by omega)
  have y := y.kept ev6 (by omega)
  obtain ⟨n7, h7, v7, e7, g7, ev7⟩ := wo_spec (F := F) (by omega) (by omega) (by omega) (by omega) gl6 g6.rd ev6.f
  have l7 := ev7.le
  rw [run_bnd e7]
  rw [wo_set ds] at g7
  have hmeet : (fun m => sx m && !(sx m && !sy m)) = fun m => sx m && sy m := by
    funext m; cases sx m <;> cases sy m <;> rfl
  rw [hmeet] at g7
  have gl := gl6.kept ev6.f fun c hc => ev7.no hc
  have gm := gm6.kept ev6.f fun c hc => ev7.no hc
  have gt := g7.rd
  have x := x.kept ev7 (by omega)
  have y := y.kept ev7 (by omega)
  unfold L1_SetPairs_r8
  dsimp only
  obtain ⟨n8, h8, p8, e8, z8, ev8⟩ := at_copy (F := F) x ev7.f
  have l8 := ev8.le
  rw [run_bnd e8]
  have hb7 : h7.get 0 = some ⟨deB, .ro⟩ := by rw [ev7.no (by omega), ev6.no (by omega), ev5.no (by omega), ev4.no (by omega), ev3.no (by omega), ev2.no (by omega)]; exact hb1
  unfold L1_SetPairs_r9
  dsimp only
  obtain ⟨n9, h9, e9, z9, ev9⟩ := at_add (F := F) F1 z8 ev8.f (Nat.le_refl _) (by omega) 77
  rw [run_bnd e9]
  have ev : Ev No n7 h7 n9 h9 := ev8.trans (Q := fun c => n7 ≤ c ∧ c < n8) ev9 fun c hc q => by omega
  have l9 := ev.le
  have gl := gl.kept ev7.f fun c hc => ev.no hc
  have gm := gm.kept ev7.f fun c hc => ev.no hc
  have gt := gt.kept ev7.f fun c hc => ev.no hc
  have x := x.kept ev (by omega)
  have y := y.kept ev (by omega)
  have hb9 : h9.get 0 = some ⟨deB, .ro⟩ := by rw [ev.no (by omega)]; exact hb7
  have f9 := ev.f
  clear ev ev8 ev9 z8 z9 e8 e9
  unfold L1_SetPairs_r10
  dsimp only
  obtain ⟨n10, h10, p10, e10, w10, ev10⟩ := at_less (F := F) F1 x y f9
  have l10 := ev10.le
  rw [run_bnd e10]
  have gl := gl.kept f9 fun c hc => ev10.no hc
  have gm := gm.kept f9 fun c hc => ev10.no hc
  have gt := gt.kept f9 fun c hc => ev10.no hc
  have x := x.kept ev10 (by omega)
  have y := y.kept ev10 (by omega)
  have hb10 : h10.get 0 = some ⟨deB, .ro⟩ := by rw [ev10.no (by omega)]; exact hb9
  obtain ⟨n11, h11, v11, e11, g11, ev11⟩ := at_all (F := F) F1 (by omega) hb10 w10 ev10.f
  have l11 := ev11.le
  rw [run_bnd e11]
  have gl := gl.kept ev10.f fun c hc => ev11.no hc
  have gm := gm.kept ev10.f fun c hc => ev11.no hc
  have gt := gt.kept ev10.f fun c hc => ev11.no hc
  have x := x.kept ev11 (by omega)
  have y := y.kept ev11 (by omega)
  have hb11 : h11.get 0 = some ⟨deB, .ro⟩ := by rw [ev11.no (by omega)]; exact hb10
  obtain ⟨n12, h12, v12, e12, g12, ev12⟩ := wo_spec (F := F) (by omega) (by omega) (by omega) (by omega) gl gm ev11.f
  have l12 := ev12.le
  rw [run_bnd e12]
  have gl := gl.kept ev11.f fun c hc => ev12.no hc
  have gm := gm.kept ev11.f fun c hc => ev12.no hc
  have gt := gt.kept ev11.f fun c hc => ev12.no hc
  have x := x.kept ev12 (by omega)
  have y := y.kept ev12 (by omega)
  have hb12 : h12.get 0 = some ⟨deB, .ro⟩ := by rw [ev12.no (by omega)]; exact hb11
  rw [wo_set ys] at g12
  rw [run_bnd (req_spec (g11.rd.kept ev11.f fun c hc => ev12.no hc) g12.rd (by omega) (by omega)), decide_eq_true rfl]
  simp only [onB_ite, run_ite, if_true]
  obtain ⟨n13, h13, p13, e13, w13, ev13⟩ := at_meet (F := F) F1 x y ev12.f
  have l13 := ev13.le
  rw [run_bnd e13]
  have gl := gl.kept ev12.f fun c hc => ev13.no hc
  have gm := gm.kept ev12.f fun c hc => ev13.no hc
  have gt := gt.kept ev12.f fun c hc => ev13.no hc
  have x := x.kept ev13 (by omega)
  have y := y.kept ev13 (by omega)
  have hb13 : h13.get 0 = some ⟨deB, .ro⟩ := by rw [ev13.no (by omega)]; exact hb12
  obtain ⟨n14, h14, v14, e14, g14, ev14⟩ := at_all (F := F) F1 (by omega) hb13 w13 ev13.f
  have l14 := ev14.le
  rw [run_bnd e14]
  have gl := gl.kept ev13.f fun c hc => ev14.no hc
  have gm := gm.kept ev13.f fun c hc => ev14.no hc
  have gt := gt.kept ev13.f fun c hc => ev14.no hc
  have x := x.kept ev14 (by omega)
  have y := y.kept ev14 (by omega)
  have hb14 : h14.get 0 = some ⟨deB, .ro⟩ := by rw [ev14.no (by omega)]; exact hb13
  have lm := len fun m => sx m && sy m
  rw [run_bnd (req_spec g14.rd gt (by omega) (by omega)), decide_eq_true rfl]
  unfold L1_SetPairs_r11
  simp only [onB_ite, run_ite, if_true]
  have q1 : decide (ints (setL sx) = ints (setL sy)) = eqS sx sy := by
    rw [Bool.eq_iff_iff, decide_eq_true_eq, eqS_iff]
    constructor
    · intro e
      funext m
      rw [Bool.eq_iff_iff]
      have h1 := ints_mem xs (z := (m : Int))
      have h2 := ints_mem ys (z := (m : Int))
      rw [Int.toNat_natCast] at h1 h2
      rw [e] at h1
      constructor
      · intro hm; exact (h2.1 (h1.2 ⟨by omega, hm⟩)).2
      · intro hm; exact (h1.1 (h2.2 ⟨by omega, hm⟩)).2
    · rintro rfl; rfl
  rw [run_bnd (at_eq F1 x y), run_bnd (req_spec gl gm (by omega) (by omega)), q1, st_eqB]
  simp only [onB_ite, run_ite]
  rw [if_pos (by cases eqS sx sy <;> rfl), run_bnd (at_in F1 x y), gt.lenI, gl.lenI, st_eql, st_eqB]
  have q2 : (((ints (setL fun m => sx m && sy m)).length : Int) == ((ints (setL sx)).length : Int)) = subS sx sy := by
    rw [Bool.eq_iff_iff, beq_iff_eq, subS_iff]
    have e : setL (fun m => sx m && sy m) = (setL sx).filter sy := by
      unfold setL upTo
      rw [List.filter_filter]
      apply List.filter_congr
      intro m _
      rw [Bool.and_comm]
    rw [ints, ints, List.length_map, List.length_map, e]
    constructor
    · intro q m hm
      have := List.length_filter_eq_length_iff.1 (show ((setL sx).filter sy).length = (setL sx).length by omega)
      exact this m ((setL_memS xs).2 hm)
    · intro q
      have : ((setL sx).filter sy).length = (setL sx).length := List.length_filter_eq_length_iff.2 fun m hm => q m ((setL_memS xs).1 hm)
      omega
  rw [q2]
  simp only [onB_ite, run_ite]
  rw [if_pos (by cases subS sx sy <;> rfl)]
  obtain ⟨n15, h15, v15, e15, g15, ev15⟩ := at_all (F := F) F1 (by omega) hb14 x ev14.f
  have l15 := ev15.le
  rw [run_bnd e15]
  have gl := gl.kept ev14.f fun c hc => ev15.no hc
  have gm := gm.kept ev14.f fun c hc => ev15.no hc
  have y := y.kept ev15 (by omega)
  have hb15 : h15.get 0 = some ⟨deB, .ro⟩ := by rw [ev15.no (by omega)]; exact hb14
  rw [run_bnd (req_spec g15.rd gl (by omega) (by omega)), decide_eq_true rfl]
  simp only [onB_ite, run_ite, if_true]
  obtain ⟨n16, h16, v16, e16, g16, ev16⟩ := at_all (F := F) F1 (by omega) hb15 y ev15.f
  have l16 := ev16.le
  rw [run_bnd e16]
  have gm := gm.kept ev15.f fun c hc => ev16.no hc
  rw [run_bnd (req_spec g16.rd gm (by omega) (by omega)), decide_eq_true rfl]
  exact ⟨_, _, rfl⟩

theorem pairs_law (h : H) (us : List Value) (f : Fr 8 h) (hb : h.get 0 = some ⟨deB, .ro⟩) (ha : ArgsAre h [.flat 1, .flat 1] us) : ∃ n' h', (L1_SetPairs_m 6000 us).run 8 h = some (.bool true, n', h') := pairs_run (by decide) begun6_runs begun6_keeps h us f hb ha

end Go.Fw
