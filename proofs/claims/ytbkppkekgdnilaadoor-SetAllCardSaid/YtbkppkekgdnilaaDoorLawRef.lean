/-
  haruspexref1.In, Put and Eq, said of the abstract machine.
-/
import Derived.Test.YtbkppkekgdnilaaDoorGenB
import Derived.Test.YtbkppkekgdnilaaDoorFwX
namespace Go.Fw

theorem rin_l1 {F n : Nat} {h : H} {v : Value} {zs : List Int} {z : Int} (g : RdI h v zs) (hl : zs.length ≤ 9223372036854775000) {E : M Value} (b : Bool) (hE : E.run n h = some (bo false, n, h)) : ∀ j i k, i + j = zs.length → j < k →
    (R1_In_l1 F E k v (i64 z) (i64 i)).run n h = some (bo (decide (z ∈ zs.drop i)), n, h) := by
  intro j
  induction j with
  | zero =>
    intro i k hij hk
    obtain ⟨k, rfl⟩ : ∃ j, k = j + 1 := ⟨k - 1, by omega⟩
    rw [R1_In_l1_s]
    unfold R1_In_b1 R1_In_r2
    rw [g.lenI]
    simp only [st_lss, onB_ite, run_ite, decide_eq_true_eq]
    rw [if_neg (by omega), hE, List.drop_of_length_le (by omega)]
    rfl
  | succ j ih =>
    intro i k hij hk
    obtain ⟨k, rfl⟩ : ∃ j, k = j + 1 := ⟨k - 1, by omega⟩
    rw [R1_In_l1_s]
    unfold R1_In_b1 R1_In_r2
    rw [g.lenI]
    simp only [st_lss, onB_ite, run_ite, decide_eq_true_eq]
    have hi : i < zs.length := by omega
    rw [if_pos (by omega)]
    unfold R1_In_r4
    rw [g.getI hi, st_eql, List.drop_eq_getElem_cons hi]
    simp only [onB_ite, run_ite, beq_iff_eq]
    by_cases e : zs[i] = z
    · rw [if_pos e]
      unfold R1_In_r5
      rw [decide_eq_true (by rw [e]; exact List.mem_cons_self)]
      rfl
    · rw [if_neg e]
      unfold R1_In_r3
      rw [sx_add (by omega)]
      refine (ih (i + 1) k (by omega) (by omega)).trans ?_
      have : decide (z ∈ zs.drop (i + 1)) = decide (z ∈ zs[i] :: zs.drop (i + 1)) := by
        rw [decide_eq_decide, List.mem_cons]
        constructor
        · exact .inr
        · rintro (h | h)
          · exact absurd h.symm e
          · exact h
      rw [this]

theorem rin_spec {F n : Nat} {h : H} {v : Value} {zs : List Int} (g : RdI h v zs) (hF : zs.length < F) (hl : zs.length ≤ 9223372036854775000) (z : Int) : (R1_In F v (i64 z)).run n h = some (bo (decide (z ∈ zs)), n, h) := by
  unfold R1_In R1_In_r0 R1_In_r1
  dsimp only
  have := rin_l1 (F := F) (n := n) (z := z) g hl (E := R1_In_k0 F) false rfl zs.length 0 F (by omega) hF
  rw [List.drop_zero] at this
  exact this

/-! ## Eq -/

theorem req_l1 {F n : Nat} {h : H} {v v' : Value} {zs ys : List Int} (g : RdI h v zs) (g' : RdI h v' ys) (he : zs.length = ys.length) (hl : zs.length ≤ 9223372036854775000) {E : M Value} (hE : E.run n h = some (bo true, n, h)) : ∀ j i k, i + j = zs.length → j < k →
    (R1_Eq_l1 F E k v v' (i64 i)).run n h = some (bo (decide (zs.drop i = ys.drop i)), n, h) := by
  intro j
  induction j with
  | zero =>
    intro i k hij hk
    obtain ⟨k, rfl⟩ : ∃ j, k = j + 1 := ⟨k - 1, by omega⟩
    rw [R1_Eq_l1_s]
    unfold R1_Eq_b1 R1_Eq_r4
    rw [g.lenI]
    simp only [st_lss, onB_ite, run_ite, decide_eq_true_eq]
    rw [if_neg (by omega), hE, List.drop_of_length_le (by omega), List.drop_of_length_le (by omega)]
    rfl
  | succ j ih =>
    intro i k hij hk
    obtain ⟨k, rfl⟩ : ∃ j, k = j + 1 := ⟨k - 1, by omega⟩
    rw [R1_Eq_l1_s]
    unfold R1_Eq_b1 R1_Eq_r4
    rw [g.lenI]
    simp only [st_lss, onB_ite, run_ite, decide_eq_true_eq]
    have hi : i < zs.length := by omega
    have hi' : i < ys.length := by omega
    rw [if_pos (by omega)]
    unfold R1_Eq_r6
    rw [g.getI hi, g'.getI hi', st_neq, List.drop_eq_getElem_cons hi, List.drop_eq_getElem_cons hi']
    simp only [onB_ite, run_ite, bne_iff_ne]
    by_cases e : zs[i] = ys[i]
    · rw [if_neg (by simpa using e)]
      unfold R1_Eq_r5
      rw [sx_add (by omega)]
      refine (ih (i + 1) k (by omega) (by omega)).trans ?_
      have : decide (zs.drop (i + 1) = ys.drop (i + 1)) = decide (zs[i] :: zs.drop (i + 1) = ys[i] :: ys.drop (i + 1)) := by
        rw [decide_eq_decide, List.cons.injEq, e]; simp
      rw [this]
    · rw [if_pos e]
      unfold R1_Eq_r7
      rw [decide_eq_false (by rw [List.cons.injEq]; exact fun h => e h.1)]
      rfl

theorem req_spec {F n : Nat} {h : H} {v v' : Value} {zs ys : List Int} (g : RdI h v zs) (g' : RdI h v' ys) (hF : zs.length < F) (hl : zs.length ≤ 9223372036854775000) : (R1_Eq F v v').run n h = some (bo (decide (zs = ys)), n, h) := by
  unfold R1_Eq R1_Eq_r0 R1_Eq_r1
  dsimp only
  rw [g.lenI, g'.lenI, st_neq]
  simp only [onB_ite, run_ite, bne_iff_ne]
  by_cases e : zs.length = ys.length
  · rw [if_neg (by omega)]
    unfold R1_Eq_r3
    dsimp only
    have := req_l1 (F := F) (n := n) g g' e hl (E := R1_Eq_k0 F) rfl zs.length 0 F (by omega) hF
    rw [List.drop_zero, List.drop_zero] at this
    exact this
  · rw [if_pos (by omega), decide_eq_false (by rintro rfl; exact e rfl)]
    rfl

/-! ## Put -/

/-- A number among rising ones. -/
def ins (z : Int) (L : List Int) : List Int := L.takeWhile (· < z) ++ z :: L.dropWhile (· < z)
def putI (L : List Int) (z : Int) : List Int := if z ∈ L then L else ins z L

theorem rput_l1 {F n : Nat} {h : H} {v : Value} {zs : List Int} {z : Int} (g : RdI h v zs) (hl : zs.length ≤ 9223372036854775000) {E : Value → Value → Value → M Value} : ∀ j i k, i + j = zs.length → j < k → (∀ m, m < i → ∀ y, zs[m]? = some y → y < z) →
    ∃ q : Nat, (R1_Put_l1 F E k v (i64 z) (i64 i)).run n h = (E v (i64 z) (i64 q)).run n h ∧ q ≤ zs.length ∧ zs.take q = zs.takeWhile (· < z) ∧ zs.drop q = zs.dropWhile (· < z) := by
  have fin : ∀ i, i ≤ zs.length → (∀ m, m < i → ∀ y, zs[m]? = some y → y < z) → (∀ y, zs[i]? = some y → ¬ y < z) → zs.take i = zs.takeWhile (· < z) ∧ zs.drop i = zs.dropWhile (· < z) := by
    clear g hl
    induction zs with
    | nil => intro i hi _ _; simp
    | cons a zs ih =>
      intro i hi h1 h2
      match i with
      | 0 =>
        have := h2 a rfl
        simp [List.takeWhile_cons, List.dropWhile_cons, this]
      | i + 1 =>
        have h0 := h1 0 (by omega) a rfl
        obtain ⟨q1, q2⟩ := ih i (by simpa using hi) (fun m hm y hy => h1 (m + 1) (by omega) y (by simpa using hy)) (fun y hy => h2 y (by simpa using hy))
        simp [List.takeWhile_cons, List.dropWhile_cons, h0, q1, q2]
  intro j
  induction j with
  | zero =>
    intro i k hij hk hlt
    obtain ⟨k, rfl⟩ : ∃ j, k = j + 1 := ⟨k - 1, by omega⟩
    rw [R1_Put_l1_s]
    unfold R1_Put_b1 R1_Put_r4
    rw [g.lenI]
    simp only [st_lss, onB_ite, run_ite, decide_eq_true_eq]
    rw [if_neg (by omega), if_neg (by simp)]
    obtain ⟨q1, q2⟩ := fin i (by omega) hlt (fun y hy => by rw [List.getElem?_eq_none (by omega)] at hy; cases hy)
    exact ⟨i, rfl, by omega, q1, q2⟩
  | succ j ih =>
    intro i k hij hk hlt
    obtain ⟨k, rfl⟩ : ∃ j, k = j + 1 := ⟨k - 1, by omega⟩
    rw [R1_Put_l1_s]
    unfold R1_Put_b1 R1_Put_r4
    rw [g.lenI]
    have hi : i < zs.length := by omega
    simp only [st_lss, onB_ite, run_ite, decide_eq_true_eq]
    rw [if_pos (by omega), g.getI hi]
    simp only [st_lss, onB_ite, run_ite, decide_eq_true_eq]
    by_cases e : zs[i] < z
    · rw [if_pos e]
      unfold R1_Put_r5
      rw [sx_add (by omega)]
      exact ih (i + 1) k (by omega) (by omega) fun m hm y hy => by
        by_cases e2 : m = i
        · subst e2; rw [List.getElem?_eq_getElem hi] at hy; cases hy; exact e
        · exact hlt m (by omega) y hy
    · rw [if_neg e]
      obtain ⟨q1, q2⟩ := fin i (by omega) hlt (fun y hy => by rw [List.getElem?_eq_getElem hi] at hy; cases hy; exact e)
      exact ⟨i, rfl, by omega, q1, q2⟩

theorem rput_spec {F n lo : Nat} {h : H} {v : Value} {zs : List Int} (g : NewI h lo v zs) (f : Fr n h) (hlo : lo ≤ n) (hF : zs.length < F) (hl : zs.length < 1099511627776) (z : Int) :
    ∃ n' h' v', (R1_Put F v (i64 z)).run n h = some (v', n', h') ∧ NewI h' lo v' (putI zs z) ∧ Ev No n h n' h' := by
  unfold R1_Put R1_Put_r0 R1_Put_r1
  rw [run_bnd (rin_spec g.rd hF (by omega) z)]
  simp only [onB_ite, run_ite, decide_eq_true_eq]
  unfold putI
  by_cases hz : z ∈ zs
  · rw [if_pos hz, if_pos hz]
    exact ⟨n, h, v, rfl, g, Ev.refl f⟩
  rw [if_neg hz, if_neg hz]
  unfold R1_Put_r3
  dsimp only
  obtain ⟨q, e1, hq, ht, hd⟩ := rput_l1 (F := F) (n := n) (z := z) g.rd (by omega) (E := fun x0 x1 x5 => R1_Put_k0 F x0 x1 x5) zs.length 0 F (by omega) hF (fun m hm => by omega)
  rw [show (Value.int .i64 0) = i64 ((0 : Nat) : Int) from rfl, e1]
  unfold R1_Put_k0 R1_Put_r6 ins
  rw [← ht, ← hd]
  obtain ⟨b, g, hb⟩ := g
  rcases g with ⟨g0, rfl⟩ | ⟨g0, rfl, g1⟩
  · -- no list
    have h0 : zs = [] := by simpa using g0
    subst h0
    obtain rfl : q = 0 := Nat.le_zero.1 hq
    have s1 : opSlice 1 nsl none (some (i64 ((0 : Nat) : Int))) (some (i64 ((0 : Nat) : Int))) = ret nsl := rfl
    have s2 : opSlice 1 nsl (some (i64 ((0 : Nat) : Int))) none none = ret nsl := rfl
    rw [s1, ret_bnd, s2, ret_bnd, run_single f rfl]
    have s3 : opAppend 1 8 (sl n 0 1 1) nsl = ret (sl n 0 1 1) := rfl
    rw [s3, ret_bnd]
    have f1 : Fr (n + 1) (h.set n ⟨[i64 z], .own⟩) := f.new _
    obtain ⟨h2, e2, g2, f2, k2⟩ := run_append (β := Value) (bytes := 8) (v := nsl) (b := 0) (cs := []) (x := i64 z) (m := n) (km := .own) (.inl ⟨rfl, rfl⟩) f1 (H.get_set_same _ _ _) (by decide) rfl rfl (fun h => absurd rfl h) (by decide)
    rw [e2]
    exact ⟨n + 1 + 1, h2, _, rfl, ⟨n + 1, g2, fun _ => by omega⟩, f2, by omega, fun c hc _ => by rw [k2 c (by omega) (fun h => absurd rfl h), H.get_set_ne _ _ (by omega)]⟩
  · rw [List.length_map] at *
    have hbn := f.lt g1
    have s1 : opSlice 1 (sl b 0 zs.length (U + 1)) none (some (i64 q)) (some (i64 q)) = ret (sl b 0 q q) := by
      show (if (0 : Int) ≤ 0 ∧ (0 : Int) ≤ (q : Int) then (if true = true ∧ (q : Int) ≤ (q : Int) ∧ (q : Int) ≤ (zs.length : Int) ∧ (q : Int) ≤ 1099511627776 then (if U + 1 = U + 1 ∨ U + 1 < U then ret (sl b (0 + (0 : Int).toNat * 1) ((q : Int) - 0).toNat ((q : Int) - 0).toNat) else fail) else fail) else fail) = _
      rw [if_pos (by omega), if_pos ⟨rfl, by omega⟩, if_pos (.inl rfl)]
      simp
    have s2 : opSlice 1 (sl b 0 zs.length (U + 1)) (some (i64 q)) none none = ret (sl b q (zs.length - q) (U + 1)) := by
      show (if (0 : Int) ≤ (q : Int) ∧ (q : Int) ≤ (zs.length : Int) then (if (zs.length : Int) ≤ (zs.length : Int) then (if U + 1 = U + 1 then ret (sl b (0 + (q : Int).toNat * 1) ((zs.length : Int) - q).toNat (U + 1)) else _) else fail) else fail) = _
      rw [if_pos (by omega), if_pos (by omega), if_pos rfl, show ((zs.length : Int) - q).toNat = zs.length - q by omega]
      simp
    rw [s1, ret_bnd, s2, ret_bnd, run_single f rfl]
    have f1 : Fr (n + 1) (h.set n ⟨[i64 z], .own⟩) := f.new _
    have g1' : (h.set n ⟨[i64 z], .own⟩).get b = some ⟨zs.map i64, .grow⟩ := by rw [H.get_set_ne _ _ (by omega)]; exact g1
    -- the inner append
    have inner : ∃ n2 h2 m c2, n + 1 ≤ n2 ∧ Fr n2 h2 ∧ (∀ c, c < n → h2.get c = h.get c) ∧ n ≤ m ∧ (∃ kd, h2.get m = some ⟨i64 z :: (zs.drop q).map i64, kd⟩ ∧ kd ≠ .dead) ∧ ∀ K : Value → M Value, (bnd (opAppend 1 8 (sl n 0 1 1) (sl b q (zs.length - q) (U + 1))) K).run (n + 1) (h.set n ⟨[i64 z], .own⟩) = (K (sl m 0 (zs.length - q + 1) c2)).run n2 h2 := by
      by_cases h0 : zs.length - q = 0
      · refine ⟨n + 1, _, n, 1, Nat.le_refl _, f1, fun c hc => H.get_set_ne _ _ (by omega), Nat.le_refl _, ⟨.own, ?_, by decide⟩, fun K => ?_⟩
        · rw [H.get_set_same, List.drop_of_length_le (by omega)]; rfl
        · rw [h0]; rfl
      · refine ⟨n + 1 + 1, (h.set n ⟨[i64 z], .own⟩).set (n + 1) ⟨[i64 z] ++ (zs.drop q).map i64, .grow⟩, n + 1, U + 1, by omega, f1.new _, fun c hc => by rw [H.get_set_ne _ _ (by omega), H.get_set_ne _ _ (by omega)], by omega, ⟨.grow, H.get_set_same _ _ _, by decide⟩, fun K => ?_⟩
        unfold opAppend
        simp only [if_neg h0]
        rw [if_pos (by omega)]
        have c1 : cellsOf 1 (sl b q (zs.length - q) (U + 1)) = rdN b q ((zs.length - q) * 1) := by
          show (if zs.length - q = 0 then ret [] else rdN b q ((zs.length - q) * 1)) = _
          rw [if_neg h0]
        rw [c1, bnd_assoc, run_rdN, g1', ldN_some (by decide) (by rw [List.length_map]; omega), if_neg (by unfold U; omega), if_pos (by omega), bnd_assoc, cellsOf_gl (by decide), run_rdN, H.get_set_same, ldN_some (by decide) (by simp), bnd_assoc]
        have e3 : (List.drop q (List.map i64 zs)).take ((zs.length - q) * 1) = (zs.drop q).map i64 := by
          rw [List.take_of_length_le (by rw [List.length_drop, List.length_map]; omega), List.map_drop]
        rw [e3]
        show (bnd (new ([i64 z] ++ _) .grow) _).run _ _ = _
        rw [run_new f1 (by rw [List.all_append, allI]; rfl)]
        have e4 : 1 + (zs.length - q) = zs.length - q + 1 := by omega
        rw [e4]; rfl
    obtain ⟨n2, h2, m, c2, l2, f2, k2, hm, ⟨kd, gm, hkd⟩, e2⟩ := inner
    rw [e2]
    have g2 : h2.get b = some ⟨zs.map i64, .grow⟩ := by rw [k2 b hbn]; exact g1
    refine ⟨n2 + 1, h2.set n2 ⟨((zs.take q).map i64) ++ (i64 z :: (zs.drop q).map i64), .grow⟩, sl n2 0 (zs.length + 1) (U + 1), ?_, ⟨n2, .inr ⟨by simp, by rw [List.length_map, List.length_append, List.length_cons, List.length_take, List.length_drop, Nat.min_eq_left hq, show q + (zs.length - q + 1) = zs.length + 1 by omega], by rw [H.get_set_same, List.map_append, List.map_cons]⟩, fun _ => by omega⟩, f2.new _, by omega, fun c hc _ => by rw [H.get_set_ne _ _ (by omega), k2 c hc]⟩
    unfold opAppend
    simp only [if_neg (show ¬ zs.length - q + 1 = 0 by omega)]
    rw [if_pos (by omega), bnd_assoc, cellsOf_gl (by omega), run_rdN, gm, ldN_some hkd (by simp), if_neg (by unfold U; omega), if_pos (by omega), bnd_assoc]
    have e5 : (List.drop 0 (i64 z :: (zs.drop q).map i64)).take ((zs.length - q + 1) * 1) = i64 z :: (zs.drop q).map i64 := by
      rw [List.drop_zero, List.take_of_length_le (by simp)]
    rw [e5]
    have e6 : ∀ K : List Value → M Value, (bnd (cellsOf 1 (sl b 0 q q)) K).run n2 h2 = (K ((zs.take q).map i64)).run n2 h2 := fun K => by
      by_cases h0 : q = 0
      · subst h0; rfl
      · rw [cellsOf_gl h0, run_rdN, g2, ldN_some (by decide) (by rw [List.length_map]; omega), List.drop_zero, Nat.mul_one, List.map_take]
    rw [e6, bnd_assoc, run_new f2 (by rw [List.all_append, allI, List.all_cons, allI]; rfl), show q + (zs.length - q + 1) = zs.length + 1 by omega]
    rfl

end Go.Fw
