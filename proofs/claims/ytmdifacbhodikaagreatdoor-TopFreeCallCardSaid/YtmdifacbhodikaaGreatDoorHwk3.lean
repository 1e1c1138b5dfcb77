/-
  The framework by which the law is proved: FkD, FkE, FkN, FkF, FkG, FwSc, FwDeep, FkH, FwGc, FwNx, FwLp.
-/
import Derived.Test.YtmdifacbhodikaaGreatDoorHwk2
import Derived.Scope
set_option linter.all false
section
set_option linter.unusedVariables false
namespace Go.Fk
open Go Go.Fw

/-! ## What the first machine's steps on the heap come to -/

theorem rd_of {b o n : Nat} {h : H} {cs : List Value} {kd : Kind} {v : Value} (hb : h.get b = some ⟨cs, kd⟩) (hk : kd ≠ .dead) (hv : cs[o]? = some v) : rd b o n h = some (v, n, h) := by
  show rdF b o n h = _
  unfold rdF
  rw [hb]
  cases kd <;> first | exact absurd rfl hk | simp [hv]
theorem rdN_of {b o k n : Nat} {h : H} {cs : List Value} {kd : Kind} (hb : h.get b = some ⟨cs, kd⟩) (hk : kd ≠ .dead) (hl : o + k ≤ cs.length) : rdN b o k n h = some ((cs.drop o).take k, n, h) := by
  show rdNF b o k n h = _
  unfold rdNF
  rw [hb]
  cases kd <;> first | exact absurd rfl hk | simp [hl]
theorem wr1_of {b o n : Nat} {h : H} {cs : List Value} {kd : Kind} {v : Value} (hb : h.get b = some ⟨cs, kd⟩) (hk : kd = .own ∨ kd = .grow) (h1 : one v = true) (hl : o < cs.length) : wr1 b o v n h = some ((), n, h.set b ⟨cs.set o v, kd⟩) := by
  show wr1F b o v n h = _
  unfold wr1F
  rw [if_pos h1, hb]
  rcases hk with rfl | rfl <;> simp [hl]
theorem wrN_of {b o n : Nat} {h : H} {cs vs : List Value} {kd : Kind} (hb : h.get b = some ⟨cs, kd⟩) (hk : kd = .own ∨ kd = .grow) (h1 : vs.all one = true) (hl : o + vs.length ≤ cs.length) : wrN b o vs n h = some ((), n, h.set b ⟨over cs o vs, kd⟩) := by
  show wrNF b o vs n h = _
  unfold wrNF
  rw [if_pos h1, hb]
  rcases hk with rfl | rfl <;> simp [hl]
theorem new_of {n : Nat} {h : H} {cs : List Value} {kd : Kind} (hb : h.get n = none) (h1 : cs.all one = true) : new cs kd n h = some (n, n + 1, h.set n ⟨cs, kd⟩) := by
  show newF cs kd n h = _
  unfold newF
  rw [if_pos h1, hb]
theorem kill_of {b n : Nat} {h : H} {cs : List Value} (hb : h.get b = some ⟨cs, .grow⟩) : kill b n h = some ((), n, h.set b dead) := by
  show killF b n h = _
  unfold killF
  rw [hb]
theorem mpGet_of {b n : Nat} {h : H} {cs : List Value} (hb : h.get b = some ⟨.nilFunc :: cs, .dead⟩) : mpGet b n h = some (cs, n, h) := by
  show mpGetF b n h = _
  unfold mpGetF
  rw [hb]
theorem mpSet_of {b n : Nat} {h : H} {cs vs : List Value} (hb : h.get b = some ⟨.nilFunc :: cs, .dead⟩) : mpSet b vs n h = some ((), n, h.set b ⟨.nilFunc :: vs, .dead⟩) := by
  show mpSetF b vs n h = _
  unfold mpSetF
  rw [hb]

/-! ## The heaps, kept alike -/

theorem HR.got {a : Ad} {t : T4} {n : Nat} {h : H} (hr : HR a t n h) {d : Ad} {B : Blk} (hb : cvB (get d t) = some B) : h.get (num d) = some B := by rw [hr.blk, hb]
theorem HR.put {a : Ad} {t : T4} {n : Nat} {h : H} (hr : HR a t n h) {d : Ad} {B : Bk} {C : Blk} (hd : (h.get (num d)).isSome = true) (hB : cvB B = some C) : HR a (put d B t) n (h.set (num d) C) := by
  refine ⟨hr.n_eq, fun e => ?_, fun b hb => ?_⟩
  · rw [H.get_set]
    by_cases he : e = d
    · subst he; rw [if_pos rfl, get_put, hB]
    · rw [if_neg (fun q => he (num_inj q)), get_put_ne he, hr.blk]
  · rw [H.get_set, if_neg]
    · exact hr.fresh b hb
    · rintro rfl; rw [hr.fresh _ hb] at hd; cases hd
theorem HR.new {a e : Ad} {t : T4} {n : Nat} {h : H} (hr : HR a t n h) (he : num e = num a + 1) {B : Bk} {C : Blk} (hB : cvB B = some C) : HR e (Fk.put a B t) (n + 1) (h.set n C) := by
  refine ⟨by rw [he, hr.n_eq], fun d => ?_, fun b hb => ?_⟩
  · rw [hr.n_eq, H.get_set]
    by_cases hd : d = a
    · subst hd; rw [if_pos rfl, get_put, hB]
    · rw [if_neg (fun q => hd (num_inj q)), get_put_ne hd, hr.blk]
  · rw [H.get_set, if_neg (by omega)]
    exact hr.fresh b (by omega)

/-! ## Steps that look into values -/

noncomputable def onB (v : V) (t f : St) : St := @V.rec (fun _ => St) (bad) (bad) (fun x => @Bool.rec (fun _ => St) f t x) (fun _ => bad) (fun _ _ => bad) (fun _ => bad) (fun _ _ => bad) (bad) (fun _ _ _ _ => bad) (bad) (bad) (fun _ _ _ _ => bad) (fun _ _ => bad) (fun _ _ => bad) (fun _ => bad) (bad) (fun _ _ _ => bad) (bad) (fun _ _ _ => bad) (bad) (fun _ => bad) v
theorem onB_ref {v : V} {w : Value} (hv : VRel v w) {t f : St} {t' f' : M Value} (ht : Ref t t') (hf : Ref f f') : Ref (onB v t f) (Fw.onB w t' f') := by
  intro a q n h hr x a' q' e
  cases v with
  | b y =>
    rw [hv.got (by simp)]
    cases y with
    | true => exact ht _ _ _ _ hr _ _ _ e
    | false => exact hf _ _ _ _ hr _ _ _ e
  | _ => cases e

noncomputable def kNil (x : V) (K : V → St) : St := fun a q => @V.rec (fun _ => R) (.bad) (.bad) (fun _ => .bad) (fun _ => .bad) (fun _ _ => .bad) (fun _ => .bad) (fun a_ o => K (.p a_ o) a q) (.bad) (fun _ _ _ _ => .bad) (.bad) (.bad) (fun _ _ _ _ => .bad) (fun _ _ => .bad) (fun _ _ => .bad) (fun _ => .bad) (.bad) (fun g l _ => K (.f g l) a q) (.bad) (fun t v _ => K (.c t v) a q) (.bad) (fun _ => .bad) x
theorem kNil_ref {x : V} {w : Value} (hx : VRel x w) {K : V → St} {K' : Value → M Value} (hK : KR K K') : Ref (kNil x K) (bnd (opNil w) K') := by
  refine Ref.val hK fun a t v a' t' e => ?_
  cases x with
  | p d o => rw [hx.got (by simp)]; exact ⟨_, _, rfl, .of (.p d o), e⟩
  | f g l => rw [hx.got (by simp)]; exact ⟨_, _, rfl, .of (.f g l), e⟩
  | c g l => rw [hx.got (by simp)]; exact ⟨_, _, rfl, .of (.c g l), e⟩
  | _ => cases e

/-- A number that is not negative, of whatever kind. -/
noncomputable def onNat (x : V) (k : Nat → R) : R := @V.rec (fun _ => R) (.bad) (.bad) (fun _ => .bad) (fun z => @Int.rec (fun _ => R) k (fun _ => .bad) z) (fun kd z => @Int.rec (fun _ => R) k (fun _ => .bad) z) (fun n => k n) (fun _ _ => .bad) (.bad) (fun _ _ _ _ => .bad) (.bad) (.bad) (fun _ _ _ _ => .bad) (fun _ _ => .bad) (fun _ _ => .bad) (fun _ => .bad) (.bad) (fun _ _ _ => .bad) (.bad) (fun _ _ _ => .bad) (.bad) (fun _ => .bad) x
theorem onNat_ok {x : V} {k : Nat → R} {v : V} {a : Ad} {t : T4} (h : onNat x k = .ok v a t) : ∃ kd n, cv x = .int kd (n : Nat) ∧ x ≠ .u ∧ k n = .ok v a t := by
  cases x with
  | i z => cases z with
    | ofNat n => exact ⟨.i64, n, rfl, by simp, h⟩
    | negSucc n => cases h
  | k kd z => cases z with
    | ofNat n => exact ⟨kd, n, rfl, by simp, h⟩
    | negSucc n => cases h
  | w n => exact ⟨.u64, n, rfl, by simp, h⟩
  | _ => cases h

noncomputable def kFieldAddr (off : Nat) (x : V) (K : V → St) : St := fun a t => on_p x fun d o => K (.p d (Nat.add o off)) a t
theorem kFieldAddr_ref {off : Nat} {x : V} {w : Value} (hx : VRel x w) {K : V → St} {K' : Value → M Value} (hK : KR K K') : Ref (kFieldAddr off x K) (bnd (opFieldAddr off w) K') := by
  refine Ref.val hK fun a t v a' t' e => ?_
  replace e := on_p_ok e
  obtain ⟨d, o, rfl, e⟩ := e
  rw [hx.got (by simp)]
  exact ⟨_, _, rfl, .of (.p d (o + off)), e⟩

noncomputable def kIndexAddr (size : Nat) (x i : V) (K : V → St) : St := fun a t => on_s x fun d o len _ => onNat i fun n => ifR (Nat.blt n len) (K (.p d (Nat.add o (Nat.mul n size))) a t) .bad
theorem kIndexAddr_ref {size : Nat} {x i : V} {w u : Value} (hx : VRel x w) (hi : VRel i u) {K : V → St} {K' : Value → M Value} (hK : KR K K') : Ref (kIndexAddr size x i K) (bnd (opIndexAddr size w u) K') := by
  refine Ref.val hK fun a t v a' t' e => ?_
  replace e := on_s_ok e
  obtain ⟨d, o, len, cap, rfl, e⟩ := e
  replace e := onNat_ok e
  obtain ⟨kd, n, hn, hu, e⟩ := e
  replace e := ifR_ok e
  rcases e with ⟨hb, e⟩ | ⟨_, e⟩
  · have := blt_lt hb
    rw [hx.got (by simp), hi.got hu, hn]
    refine ⟨.p d (o + n * size), _, ?_, .of _, e⟩
    show (if 0 ≤ (n : Int) ∧ (n : Int) < (len : Int) then ret (Value.pointer (some ⟨num d, o + (n : Int).toNat * size, none⟩)) else fail) = _
    rw [if_pos (by omega)]
    rfl
  · cases e
noncomputable def kIndexAddrA (m size : Nat) (x i : V) (K : V → St) : St := fun a t => on_p x fun d o => onNat i fun n => ifR (Nat.blt n m) (K (.p d (Nat.add o (Nat.mul n size))) a t) .bad
theorem kIndexAddrA_ref {m size : Nat} {x i : V} {w u : Value} (hx : VRel x w) (hi : VRel i u) {K : V → St} {K' : Value → M Value} (hK : KR K K') : Ref (kIndexAddrA m size x i K) (bnd (opIndexAddrA m size w u) K') := by
  refine Ref.val hK fun a t v a' t' e => ?_
  replace e := on_p_ok e
  obtain ⟨d, o, rfl, e⟩ := e
  replace e := onNat_ok e
  obtain ⟨kd, n, hn, hu, e⟩ := e
  replace e := ifR_ok e
  rcases e with ⟨hb, e⟩ | ⟨_, e⟩
  · have := blt_lt hb
    rw [hx.got (by simp), hi.got hu, hn]
    refine ⟨.p d (o + n * size), _, ?_, .of _, e⟩
    show (if 0 ≤ (n : Int) ∧ (n : Int) < (m : Int) then ret (Value.pointer (some ⟨num d, o + (n : Int).toNat * size, none⟩)) else fail) = _
    rw [if_pos (by omega)]
    rfl
  · cases e

noncomputable def kField (off : Nat) (x : V) (K : V → St) : St := fun a t => on_a x fun l => nthK off l fun y => K y a t
theorem kField_ref {off : Nat} {x : V} {w : Value} (hx : VRel x w) {K : V → St} {K' : Value → M Value} (hK : KR K K') : Ref (kField off x K) (bnd (opField off w) K') := by
  refine Ref.val hK fun a t v a' t' e => ?_
  replace e := on_a_ok e
  obtain ⟨l, rfl, e⟩ := e
  replace e := nthK_ok e
  obtain ⟨y, h1, e⟩ := e
  rw [hx.got (by simp)]
  refine ⟨y, cv y, ?_, .of _, e⟩
  show (match (cvL l).toArray.toList[off]? with
    | some v => ret v
    | none => fail) = _
  rw [List.toList_toArray, h1]
noncomputable def kFieldN (off size : Nat) (x : V) (K : V → St) : St := fun a t => on_a x fun l => dropK off l fun l => takeK size l fun l => K (.a l) a t
theorem kFieldN_ref {off size : Nat} {x : V} {w : Value} (hx : VRel x w) {K : V → St} {K' : Value → M Value} (hK : KR K K') : Ref (kFieldN off size x K) (bnd (opFieldN off size w) K') := by
  refine Ref.val hK fun a t v a' t' e => ?_
  replace e := on_a_ok e
  obtain ⟨l, rfl, e⟩ := e
  replace e := dropK_ok e
  obtain ⟨l1, h1, h2, e⟩ := e
  replace e := takeK_ok e
  obtain ⟨l2, h3, h4, e⟩ := e
  rw [hx.got (by simp)]
  refine ⟨.a l2, _, ?_, .of _, e⟩
  show (if off + size ≤ (cvL l).toArray.toList.length then ret (Value.agg (((cvL l).toArray.toList.drop off).take size).toArray) else fail) = ret (Value.agg (cvL l2).toArray)
  rw [List.toList_toArray, if_pos (by rw [h1] at h4; simp at h4; omega), h3, h1]
noncomputable def kIndexA (m : Nat) (x i : V) (K : V → St) : St := fun a t => on_a x fun l => onNat i fun n => ifR (Nat.blt n m) (nthK n l fun y => K y a t) .bad
theorem kIndexA_ref {m : Nat} {x i : V} {w u : Value} (hx : VRel x w) (hi : VRel i u) {K : V → St} {K' : Value → M Value} (hK : KR K K') : Ref (kIndexA m x i K) (bnd (opIndexA m w u) K') := by
  refine Ref.val hK fun a t v a' t' e => ?_
  replace e := on_a_ok e
  obtain ⟨l, rfl, e⟩ := e
  replace e := onNat_ok e
  obtain ⟨kd, n, hn, hu, e⟩ := e
  replace e := ifR_ok e
  rcases e with ⟨hb, e⟩ | ⟨_, e⟩
  · have := blt_lt hb
    replace e := nthK_ok e
    obtain ⟨y, h1, e⟩ := e
    rw [hx.got (by simp), hi.got hu, hn]
    refine ⟨y, cv y, ?_, .of _, e⟩
    show (if 0 ≤ (n : Int) ∧ (n : Int) < (m : Int) then (match (cvL l).toArray.toList[(n : Int).toNat]? with
      | some v => ret v
      | none => fail) else fail) = _
    rw [if_pos (by omega), List.toList_toArray, Int.toNat_natCast, h1]
  · cases e
/-- Nothing, but for a mark. -/
noncomputable def notNF (x : V) (k : R) : R := @V.rec (fun _ => R) (k) (k) (fun _ => k) (fun _ => k) (fun _ _ => k) (fun _ => k) (fun _ _ => k) (k) (fun _ _ _ _ => k) (k) (k) (fun _ _ _ _ => k) (fun _ _ => k) (fun _ _ => k) (fun _ => k) (k) (fun _ _ _ => k) (.bad) (fun _ _ _ => k) (k) (fun _ => k) x
theorem notNF_ok {x : V} {k : R} {v : V} {a : Ad} {t : T4} (h : notNF x k = .ok v a t) : isNF (cv x) = false ∧ k = .ok v a t := by cases x <;> first | exact ⟨rfl, h⟩ | cases h
noncomputable def kExtract (x : V) (i : Nat) (K : V → St) : St := fun a t => on_t x fun l => nthK i l fun y => notNF y (K y a t)
theorem kExtract_ref {i : Nat} {x : V} {w : Value} (hx : VRel x w) {K : V → St} {K' : Value → M Value} (hK : KR K K') : Ref (kExtract x i K) (bnd (opExtract w i) K') := by
  refine Ref.val hK fun a t v a' t' e => ?_
  replace e := on_t_ok e
  obtain ⟨l, rfl, e⟩ := e
  replace e := nthK_ok e
  obtain ⟨y, h1, e⟩ := e
  replace e := notNF_ok e
  obtain ⟨h2, e⟩ := e
  rw [hx.got (by simp)]
  refine ⟨y, cv y, ?_, .of _, e⟩
  show (match (cvL l).toArray.toList[i]? with
    | some v => if ((cvL l).toArray.size == 1 && isNF v) = true then fail else ret v
    | none => fail) = _
  rw [List.toList_toArray, h1]
  simp [h2]

noncomputable def notB (b : Bool) : Bool := @Bool.rec (fun _ => Bool) true false b
noncomputable def xorB (a b : Bool) : Bool := @Bool.rec (fun _ => Bool) b (notB b) a
noncomputable def sameB (a b : Bool) : Bool := @Bool.rec (fun _ => Bool) (notB b) b a
theorem xorB_eq (a b : Bool) : xorB a b = xor a b := by cases a <;> cases b <;> rfl
theorem sameB_eq (a b : Bool) : sameB a b = (a == b) := by cases a <;> cases b <;> rfl

noncomputable def kNot (x : V) (K : V → St) : St := fun a t => on_b x fun b => K (.b (notB b)) a t
theorem kNot_ref {x : V} {w : Value} (hx : VRel x w) {K : V → St} {K' : Value → M Value} (hK : KR K K') : Ref (kNot x K) (bnd (opNot w) K') := by
  refine Ref.val hK fun a t v a' t' e => ?_
  replace e := on_b_ok e
  obtain ⟨b, rfl, e⟩ := e
  rw [hx.got (by simp)]
  exact ⟨_, _, rfl, .inr (by cases b <;> rfl), e⟩

/-- nil, or not? -/
noncomputable def nilP (x : V) (k : Bool → R) : R := @V.rec (fun _ => R) (.bad) (.bad) (fun _ => .bad) (fun _ => .bad) (fun _ _ => .bad) (fun _ => .bad) (fun a o => k false) (k true) (fun _ _ _ _ => .bad) (.bad) (.bad) (fun _ _ _ _ => .bad) (fun _ _ => .bad) (fun _ _ => .bad) (fun _ => .bad) (.bad) (fun _ _ _ => .bad) (.bad) (fun _ _ _ => .bad) (.bad) (fun _ => .bad) x
noncomputable def nilS (x : V) (k : Bool → R) : R := @V.rec (fun _ => R) (.bad) (.bad) (fun _ => .bad) (fun _ => .bad) (fun _ _ => .bad) (fun _ => .bad) (fun _ _ => .bad) (.bad) (fun a o len cap => k false) (k true) (.bad) (fun _ _ _ _ => .bad) (fun _ _ => .bad) (fun _ _ => .bad) (fun _ => .bad) (.bad) (fun _ _ _ => .bad) (.bad) (fun _ _ _ => .bad) (.bad) (fun _ => .bad) x
noncomputable def nilI (x : V) (k : Bool → R) : R := @V.rec (fun _ => R) (.bad) (.bad) (fun _ => .bad) (fun _ => .bad) (fun _ _ => .bad) (fun _ => .bad) (fun _ _ => .bad) (.bad) (fun _ _ _ _ => .bad) (.bad) (.bad) (fun _ _ _ _ => .bad) (fun _ _ => .bad) (fun _ _ => .bad) (fun _ => .bad) (.bad) (fun _ _ _ => .bad) (.bad) (fun t v _ => k false) (k true) (fun _ => .bad) x
theorem nilP_ok {x : V} {k : Bool → R} {v : V} {a : Ad} {t : T4} (h : nilP x k = .ok v a t) : (x = .np ∧ k true = .ok v a t) ∨ ∃ d o, x = .p d o ∧ k false = .ok v a t := by
  cases x <;> first | exact .inl ⟨rfl, h⟩ | exact .inr ⟨_, _, rfl, h⟩ | cases h
theorem nilS_ok {x : V} {k : Bool → R} {v : V} {a : Ad} {t : T4} (h : nilS x k = .ok v a t) : (x = .ns ∧ k true = .ok v a t) ∨ ∃ d o l c, x = .s d o l c ∧ k false = .ok v a t := by
  cases x <;> first | exact .inl ⟨rfl, h⟩ | exact .inr ⟨_, _, _, _, rfl, h⟩ | cases h
theorem nilI_ok {x : V} {k : Bool → R} {v : V} {a : Ad} {t : T4} (h : nilI x k = .ok v a t) : (x = .ni ∧ k true = .ok v a t) ∨ ∃ d o, x = .c d o ∧ k false = .ok v a t := by
  cases x <;> first | exact .inl ⟨rfl, h⟩ | exact .inr ⟨_, _, rfl, h⟩ | cases h
/-- Of two, one is nil. -/
noncomputable def nil2 (p q : Bool) (k : Bool → R) : R := @Bool.rec (fun _ => R) (@Bool.rec (fun _ => R) .bad (k false) q) (@Bool.rec (fun _ => R) (k false) (k true) q) p

noncomputable def kEqB (neg : Bool) (x y : V) (K : V → St) : St := fun a t => on_b x fun p => on_b y fun q => K (.b (xorB neg (sameB p q))) a t
noncomputable def kEqP (neg : Bool) (x y : V) (K : V → St) : St := fun a t => nilP x fun p => nilP y fun q => nil2 p q fun b => K (.b (xorB neg b)) a t
noncomputable def kEqS (neg : Bool) (x y : V) (K : V → St) : St := fun a t => nilS x fun p => nilS y fun q => nil2 p q fun b => K (.b (xorB neg b)) a t
noncomputable def kEqI (neg : Bool) (x y : V) (K : V → St) : St := fun a t => nilI x fun p => nilI y fun q => @Bool.rec (fun _ => R) .bad (K (.b (xorB neg p)) a t) q
theorem kEqB_ref {neg : Bool} {x y : V} {w u : Value} (hx : VRel x w) (hy : VRel y u) {K : V → St} {K' : Value → M Value} (hK : KR K K') : Ref (kEqB neg x y K) (bnd (opEq eqB neg w u) K') := by
  refine Ref.val hK fun a t v a' t' e => ?_
  replace e := on_b_ok e
  obtain ⟨p, rfl, e⟩ := e
  replace e := on_b_ok e
  obtain ⟨q, rfl, e⟩ := e
  rw [hx.got (by simp), hy.got (by simp)]
  refine ⟨_, _, rfl, .inr ?_, e⟩
  show Value.bool (xorB neg (sameB p q)) = .bool (xor neg (p == q))
  rw [xorB_eq, sameB_eq]
theorem kEqP_ref {neg : Bool} {x y : V} {w u : Value} (hx : VRel x w) (hy : VRel y u) {K : V → St} {K' : Value → M Value} (hK : KR K K') : Ref (kEqP neg x y K) (bnd (opEq eqP neg w u) K') := by
  refine Ref.val hK fun a t v a' t' e => ?_
  replace e := nilP_ok e
  rcases e with ⟨rfl, e⟩ | ⟨d, o, rfl, e⟩ <;> replace e := nilP_ok e <;> rcases e with ⟨rfl, e⟩ | ⟨d', o', rfl, e⟩ <;> rw [hx.got (by simp), hy.got (by simp)]
  · exact ⟨.b (xorB neg true), _, rfl, .inr (congrArg Value.bool (xorB_eq neg true)), e⟩
  · exact ⟨.b (xorB neg false), _, rfl, .inr (congrArg Value.bool (xorB_eq neg false)), e⟩
  · exact ⟨.b (xorB neg false), _, rfl, .inr (congrArg Value.bool (xorB_eq neg false)), e⟩
  · cases e
theorem kEqS_ref {neg : Bool} {x y : V} {w u : Value} (hx : VRel x w) (hy : VRel y u) {K : V → St} {K' : Value → M Value} (hK : KR K K') : Ref (kEqS neg x y K) (bnd (opEq eqSl neg w u) K') := by
  refine Ref.val hK fun a t v a' t' e => ?_
  replace e := nilS_ok e
  rcases e with ⟨rfl, e⟩ | ⟨d, o, l, c, rfl, e⟩ <;> replace e := nilS_ok e <;> rcases e with ⟨rfl, e⟩ | ⟨d', o', l', c', rfl, e⟩ <;> rw [hx.got (by simp), hy.got (by simp)]
  · exact ⟨.b (xorB neg true), _, rfl, .inr (congrArg Value.bool (xorB_eq neg true)), e⟩
  · exact ⟨.b (xorB neg false), _, rfl, .inr (congrArg Value.bool (xorB_eq neg false)), e⟩
  · exact ⟨.b (xorB neg false), _, rfl, .inr (congrArg Value.bool (xorB_eq neg false)), e⟩
  · cases e
theorem kEqI_ref {neg : Bool} {x y : V} {w u : Value} (hx : VRel x w) (hy : VRel y u) {K : V → St} {K' : Value → M Value} (hK : KR K K') : Ref (kEqI neg x y K) (bnd (opEq eqI neg w u) K') := by
  refine Ref.val hK fun a t v a' t' e => ?_
  replace e := nilI_ok e
  rcases e with ⟨rfl, e⟩ | ⟨d, o, rfl, e⟩ <;> replace e := nilI_ok e <;> rcases e with ⟨rfl, e⟩ | ⟨d', o', rfl, e⟩ <;> first | cases e | rw [hx.got (by simp), hy.got (by simp)]
  · exact ⟨.b (xorB neg true), _, rfl, .inr (congrArg Value.bool (xorB_eq neg true)), e⟩
  · exact ⟨.b (xorB neg false), _, rfl, .inr (congrArg Value.bool (xorB_eq neg false)), e⟩

/-- Two numbers: are they one? -/
noncomputable def ieq (z w : Int) : Bool := @Int.rec (fun _ => Bool) (fun m => @Int.rec (fun _ => Bool) (fun n => Nat.beq m n) (fun _ => false) w) (fun m => @Int.rec (fun _ => Bool) (fun _ => false) (fun n => Nat.beq m n) w) z
theorem ieq_eq (z w : Int) : ieq z w = decide (z = w) := by
  cases z <;> cases w <;> apply bool_ext
  · show Nat.beq _ _ = true ↔ _; simp only [Nat.beq_eq, decide_eq_true_eq]; exact ⟨fun q => congrArg Int.ofNat q, fun q => Int.ofNat.inj q⟩
  · show false = true ↔ _; simp
  · show false = true ↔ _; simp
  · show Nat.beq _ _ = true ↔ _; simp
/-- Keys that are alike: numbers, or lists of numbers. -/
noncomputable def keq1K (x y : V) (k : Bool → R) : R := on_i x fun z => on_i y fun w => k (ieq z w)
theorem keq1K_ok {x y : V} {k : Bool → R} {v : V} {a : Ad} {t : T4} (h : keq1K x y k = .ok v a t) : k (keq1 (cv x) (cv y)) = .ok v a t ∧ ∃ z w, x = .i z ∧ y = .i w := by
  replace h := on_i_ok h
  obtain ⟨z, rfl, h⟩ := h
  replace h := on_i_ok h
  obtain ⟨w, rfl, h⟩ := h
  refine ⟨?_, z, w, rfl, rfl⟩
  show k (decide (z = w)) = _
  rw [← ieq_eq]; exact h
noncomputable def keqLK (l : V) : V → (Bool → R) → R := @V.rec (fun _ => V → (Bool → R) → R) (fun m k => @V.rec (fun _ => R) (k true) (k true) (fun _ => k true) (fun _ => k true) (fun _ _ => k true) (fun _ => k true) (fun _ _ => k true) (k true) (fun _ _ _ _ => k true) (k true) (k true) (fun x r _ _ => k false) (fun _ _ => k true) (fun _ _ => k true) (fun _ => k true) (k true) (fun _ _ _ => k true) (k true) (fun _ _ _ => k true) (k true) (fun _ => k true) m) (fun m k => @V.rec (fun _ => R) (k true) (k true) (fun _ => k true) (fun _ => k true) (fun _ _ => k true) (fun _ => k true) (fun _ _ => k true) (k true) (fun _ _ _ _ => k true) (k true) (k true) (fun x r _ _ => k false) (fun _ _ => k true) (fun _ _ => k true) (fun _ => k true) (k true) (fun _ _ _ => k true) (k true) (fun _ _ _ => k true) (k true) (fun _ => k true) m) (fun _ => fun m k => @V.rec (fun _ => R) (k true) (k true) (fun _ => k true) (fun _ => k true) (fun _ _ => k true) (fun _ => k true) (fun _ _ => k true) (k true) (fun _ _ _ _ => k true) (k true) (k true) (fun x r _ _ => k false) (fun _ _ => k true) (fun _ _ => k true) (fun _ => k true) (k true) (fun _ _ _ => k true) (k true) (fun _ _ _ => k true) (k true) (fun _ => k true) m) (fun _ => fun m k => @V.rec (fun _ => R) (k true) (k true) (fun _ => k true) (fun _ => k true) (fun _ _ => k true) (fun _ => k true) (fun _ _ => k true) (k true) (fun _ _ _ _ => k true) (k true) (k true) (fun x r _ _ => k false) (fun _ _ => k true) (fun _ _ => k true) (fun _ => k true) (k true) (fun _ _ _ => k true) (k true) (fun _ _ _ => k true) (k true) (fun _ => k true) m) (fun _ _ => fun m k => @V.rec (fun _ => R) (k true) (k true) (fun _ => k true) (fun _ => k true) (fun _ _ => k true) (fun _ => k true) (fun _ _ => k true) (k true) (fun _ _ _ _ => k true) (k true) (k true) (fun x r _ _ => k false) (fun _ _ => k true) (fun _ _ => k true) (fun _ => k true) (k true) (fun _ _ _ => k true) (k true) (fun _ _ _ => k true) (k true) (fun _ => k true) m) (fun _ => fun m k => @V.rec (fun _ => R) (k true) (k true) (fun _ => k true) (fun _ => k true) (fun _ _ => k true) (fun _ => k true) (fun _ _ => k true) (k true) (fun _ _ _ _ => k true) (k true) (k true) (fun x r _ _ => k false) (fun _ _ => k true) (fun _ _ => k true) (fun _ => k true) (k true) (fun _ _ _ => k true) (k true) (fun _ _ _ => k true) (k true) (fun _ => k true) m) (fun _ _ => fun m k => @V.rec (fun _ => R) (k true) (k true) (fun _ => k true) (fun _ => k true) (fun _ _ => k true) (fun _ => k true) (fun _ _ => k true) (k true) (fun _ _ _ _ => k true) (k true) (k true) (fun x r _ _ => k false) (fun _ _ => k true) (fun _ _ => k true) (fun _ => k true) (k true) (fun _ _ _ => k true) (k true) (fun _ _ _ => k true) (k true) (fun _ => k true) m) (fun m k => @V.rec (fun _ => R) (k true) (k true) (fun _ => k true) (fun _ => k true) (fun _ _ => k true) (fun _ => k true) (fun _ _ => k true) (k true) (fun _ _ _ _ => k true) (k true) (k true) (fun x r _ _ => k false) (fun _ _ => k true) (fun _ _ => k true) (fun _ => k true) (k true) (fun _ _ _ => k true) (k true) (fun _ _ _ => k true) (k true) (fun _ => k true) m) (fun _ _ _ _ => fun m k => @V.rec (fun _ => R) (k true) (k true) (fun _ => k true) (fun _ => k true) (fun _ _ => k true) (fun _ => k true) (fun _ _ => k true) (k true) (fun _ _ _ _ => k true) (k true) (k true) (fun x r _ _ => k false) (fun _ _ => k true) (fun _ _ => k true) (fun _ => k true) (k true) (fun _ _ _ => k true) (k true) (fun _ _ _ => k true) (k true) (fun _ => k true) m) (fun m k => @V.rec (fun _ => R) (k true) (k true) (fun _ => k true) (fun _ => k true) (fun _ _ => k true) (fun _ => k true) (fun _ _ => k true) (k true) (fun _ _ _ _ => k true) (k true) (k true) (fun x r _ _ => k false) (fun _ _ => k true) (fun _ _ => k true) (fun _ => k true) (k true) (fun _ _ _ => k true) (k true) (fun _ _ _ => k true) (k true) (fun _ => k true) m) (fun m k => @V.rec (fun _ => R) (k true) (k true) (fun _ => k true) (fun _ => k true) (fun _ _ => k true) (fun _ => k true) (fun _ _ => k true) (k true) (fun _ _ _ _ => k true) (k true) (k true) (fun x r _ _ => k false) (fun _ _ => k true) (fun _ _ => k true) (fun _ => k true) (k true) (fun _ _ _ => k true) (k true) (fun _ _ _ => k true) (k true) (fun _ => k true) m) (fun x r _ ih m k => on_cons m fun y s => keq1K x y fun b => @Bool.rec (fun _ => R) (k false) (ih s k) b) (fun _ _ => fun m k => @V.rec (fun _ => R) (k true) (k true) (fun _ => k true) (fun _ => k true) (fun _ _ => k true) (fun _ => k true) (fun _ _ => k true) (k true) (fun _ _ _ _ => k true) (k true) (k true) (fun x r _ _ => k false) (fun _ _ => k true) (fun _ _ => k true) (fun _ => k true) (k true) (fun _ _ _ => k true) (k true) (fun _ _ _ => k true) (k true) (fun _ => k true) m) (fun _ _ => fun m k => @V.rec (fun _ => R) (k true) (k true) (fun _ => k true) (fun _ => k true) (fun _ _ => k true) (fun _ => k true) (fun _ _ => k true) (k true) (fun _ _ _ _ => k true) (k true) (k true) (fun x r _ _ => k false) (fun _ _ => k true) (fun _ _ => k true) (fun _ => k true) (k true) (fun _ _ _ => k true) (k true) (fun _ _ _ => k true) (k true) (fun _ => k true) m) (fun _ => fun m k => @V.rec (fun _ => R) (k true) (k true) (fun _ => k true) (fun _ => k true) (fun _ _ => k true) (fun _ => k true) (fun _ _ => k true) (k true) (fun _ _ _ _ => k true) (k true) (k true) (fun x r _ _ => k false) (fun _ _ => k true) (fun _ _ => k true) (fun _ => k true) (k true) (fun _ _ _ => k true) (k true) (fun _ _ _ => k true) (k true) (fun _ => k true) m) (fun m k => @V.rec (fun _ => R) (k true) (k true) (fun _ => k true) (fun _ => k true) (fun _ _ => k true) (fun _ => k true) (fun _ _ => k true) (k true) (fun _ _ _ _ => k true) (k true) (k true) (fun x r _ _ => k false) (fun _ _ => k true) (fun _ _ => k true) (fun _ => k true) (k true) (fun _ _ _ => k true) (k true) (fun _ _ _ => k true) (k true) (fun _ => k true) m) (fun _ _ _ => fun m k => @V.rec (fun _ => R) (k true) (k true) (fun _ => k true) (fun _ => k true) (fun _ _ => k true) (fun _ => k true) (fun _ _ => k true) (k true) (fun _ _ _ _ => k true) (k true) (k true) (fun x r _ _ => k false) (fun _ _ => k true) (fun _ _ => k true) (fun _ => k true) (k true) (fun _ _ _ => k true) (k true) (fun _ _ _ => k true) (k true) (fun _ => k true) m) (fun m k => @V.rec (fun _ => R) (k true) (k true) (fun _ => k true) (fun _ => k true) (fun _ _ => k true) (fun _ => k true) (fun _ _ => k true) (k true) (fun _ _ _ _ => k true) (k true) (k true) (fun x r _ _ => k false) (fun _ _ => k true) (fun _ _ => k true) (fun _ => k true) (k true) (fun _ _ _ => k true) (k true) (fun _ _ _ => k true) (k true) (fun _ => k true) m) (fun _ _ _ => fun m k => @V.rec (fun _ => R) (k true) (k true) (fun _ => k true) (fun _ => k true) (fun _ _ => k true) (fun _ => k true) (fun _ _ => k true) (k true) (fun _ _ _ _ => k true) (k true) (k true) (fun x r _ _ => k false) (fun _ _ => k true) (fun _ _ => k true) (fun _ => k true) (k true) (fun _ _ _ => k true) (k true) (fun _ _ _ => k true) (k true) (fun _ => k true) m) (fun m k => @V.rec (fun _ => R) (k true) (k true) (fun _ => k true) (fun _ => k true) (fun _ _ => k true) (fun _ => k true) (fun _ _ => k true) (k true) (fun _ _ _ _ => k true) (k true) (k true) (fun x r _ _ => k false) (fun _ _ => k true) (fun _ _ => k true) (fun _ => k true) (k true) (fun _ _ _ => k true) (k true) (fun _ _ _ => k true) (k true) (fun _ => k true) m) (fun _ => fun m k => @V.rec (fun _ => R) (k true) (k true) (fun _ => k true) (fun _ => k true) (fun _ _ => k true) (fun _ => k true) (fun _ _ => k true) (k true) (fun _ _ _ _ => k true) (k true) (k true) (fun x r _ _ => k false) (fun _ _ => k true) (fun _ _ => k true) (fun _ => k true) (k true) (fun _ _ _ => k true) (k true) (fun _ _ _ => k true) (k true) (fun _ => k true) m) l
theorem keqLK_ok : ∀ {l m : V} {k : Bool → R} {v : V} {a : Ad} {t : T4}, keqLK l m k = .ok v a t → k (keqL (cvL l) (cvL m)) = .ok v a t := by
  intro l
  induction l with
  | cons x r _ ih =>
    intro m k v a t h
    obtain ⟨y, s, rfl, h⟩ := on_cons_ok (show on_cons m (fun y s => keq1K x y fun b => @Bool.rec (fun _ => R) (k false) (keqLK r s k) b) = _ from h)
    obtain ⟨h, _⟩ := keq1K_ok h
    show k (keq1 (cv x) (cv y) && keqL (cvL r) (cvL s)) = _
    cases hb : keq1 (cv x) (cv y) with
    | false => rw [hb] at h; exact h
    | true => rw [hb] at h; exact ih h
  | _ =>
    intro m k v a t h
    have h : @V.rec (fun _ => R) (k true) (k true) (fun _ => k true) (fun _ => k true) (fun _ _ => k true) (fun _ => k true) (fun _ _ => k true) (k true) (fun _ _ _ _ => k true) (k true) (k true) (fun x r _ _ => k false) (fun _ _ => k true) (fun _ _ => k true) (fun _ => k true) (k true) (fun _ _ _ => k true) (k true) (fun _ _ _ => k true) (k true) (fun _ => k true) m = .ok v a t := h
    cases m <;> first | exact h | cases h
noncomputable def keqK (x y : V) (k : Bool → R) : R := @V.rec (fun _ => R) (.bad) (.bad) (fun _ => .bad) (fun z => keq1K (.i z) y k) (fun _ _ => .bad) (fun _ => .bad) (fun _ _ => .bad) (.bad) (fun _ _ _ _ => .bad) (.bad) (.bad) (fun _ _ _ _ => .bad) (fun l _ => on_a y fun m => keqLK l m k) (fun _ _ => .bad) (fun _ => .bad) (.bad) (fun _ _ _ => .bad) (.bad) (fun _ _ _ => .bad) (.bad) (fun _ => .bad) x
theorem keqK_ok {x y : V} {k : Bool → R} {v : V} {a : Ad} {t : T4} (h : keqK x y k = .ok v a t) : k (keq (cv x) (cv y)) = .ok v a t := by
  cases x with
  | a l =>
    obtain ⟨m, rfl, h⟩ := on_a_ok (show on_a y (fun m => keqLK l m k) = _ from h)
    have := keqLK_ok h
    show k (keqL (cvL l).toArray.toList (cvL m).toArray.toList) = _
    simpa using this
  | i z =>
    obtain ⟨h, _, w, _, rfl⟩ := keq1K_ok (show keq1K (.i z) y k = _ from h)
    exact h
  | _ => cases h
/-- A number in its bounds; so many of them. -/
noncomputable def wfK (x : V) (k : R) : R := on_i x fun z => @Int.rec (fun _ => R) (fun n => ifR (Nat.blt n 9223372036854775808) k .bad) (fun n => ifR (Nat.blt n 9223372036854775808) k .bad) z
theorem wfK_ok {x : V} {k : R} {v : V} {a : Ad} {t : T4} (h : wfK x k = .ok v a t) : wf64 (cv x) = true ∧ k = .ok v a t := by
  obtain ⟨z, rfl, h⟩ := on_i_ok h
  cases z with
  | ofNat n =>
    rcases ifR_ok h with ⟨hb, h⟩ | ⟨_, h⟩
    · refine ⟨?_, h⟩
      have h1 := blt_lt hb
      show (Lit.int .i64 (.ofNat n)).wf = true
      simp only [Lit.wf, IntKind.min, IntKind.max, IntKind.bits, IntKind.signed]
      simp
      omega
    · cases h
  | negSucc n =>
    rcases ifR_ok h with ⟨hb, h⟩ | ⟨_, h⟩
    · refine ⟨?_, h⟩
      have h1 := blt_lt hb
      show (Lit.int .i64 (.negSucc n)).wf = true
      simp only [Lit.wf, IntKind.min, IntKind.max, IntKind.bits, IntKind.signed]
      simp
      omega
    · cases h
noncomputable def wfsK (l : V) (k : R) : R := @V.rec (fun _ => R) (k) (k) (fun _ => k) (fun _ => k) (fun _ _ => k) (fun _ => k) (fun _ _ => k) (k) (fun _ _ _ _ => k) (k) (k) (fun x _ _ ih => wfK x ih) (fun _ _ => k) (fun _ _ => k) (fun _ => k) (k) (fun _ _ _ => k) (k) (fun _ _ _ => k) (k) (fun _ => k) l
theorem wfsK_ok {k : R} {v : V} {a : Ad} {t : T4} : ∀ {l : V}, wfsK l k = .ok v a t → (cvL l).all wf64 = true ∧ k = .ok v a t := by
  intro l
  induction l with
  | cons x r _ ih =>
    intro h
    obtain ⟨h1, h⟩ := wfK_ok (show wfK x (wfsK r k) = _ from h)
    obtain ⟨h2, h⟩ := ih h
    exact ⟨by simp [cvL, h1, h2], h⟩
  | _ => intro h; exact ⟨rfl, h⟩
noncomputable def ikeyK (n : Nat) (x : V) (k : R) : R := @Nat.rec (fun _ => R) (wfK x k) (fun m _ => on_a x fun l => ifR (Nat.beq (lenV l) (Nat.succ m)) (wfsK l k) .bad) n
theorem ikeyK_ok {n : Nat} {x : V} {k : R} {v : V} {a : Ad} {t : T4} (h : ikeyK n x k = .ok v a t) : ikey n (cv x) = true ∧ x ≠ .u ∧ k = .ok v a t := by
  cases n with
  | zero =>
    obtain ⟨h1, h⟩ := wfK_ok (show wfK x k = _ from h)
    refine ⟨by unfold ikey; exact h1, ?_, h⟩
    rintro rfl; cases h1
  | succ m =>
    obtain ⟨l, rfl, h⟩ := on_a_ok (show on_a x (fun l => ifR (Nat.beq (lenV l) (m + 1)) (wfsK l k) .bad) = _ from h)
    rcases ifR_ok h with ⟨hb, h⟩ | ⟨_, h⟩
    · obtain ⟨h1, h⟩ := wfsK_ok h
      have := Nat.eq_of_beq_eq_true hb
      refine ⟨?_, by simp, h⟩
      show (decide ((cvL l).toArray.size = m + 1) && (cvL l).toArray.toList.all wf64) = true
      rw [← lenV_eq] at this
      rw [List.toList_toArray, h1, Bool.and_true]
      simp [this]
    · cases h
noncomputable def kEqA (n : Nat) (neg : Bool) (x y : V) (K : V → St) : St := fun a t => ikeyK n x (ikeyK n y (keqK x y fun b => K (.b (xorB neg b)) a t))
theorem kEqA_ref {n : Nat} {neg : Bool} {x y : V} {w u : Value} (hx : VRel x w) (hy : VRel y u) {K : V → St} {K' : Value → M Value} (hK : KR K K') : Ref (kEqA n neg x y K) (bnd (opEq (eqA n) neg w u) K') := by
  refine Ref.val hK fun a t v a' t' e => ?_
  replace e := ikeyK_ok e
  obtain ⟨h1, h2, e⟩ := e
  replace e := ikeyK_ok e
  obtain ⟨h3, h4, e⟩ := e
  have e := keqK_ok e
  rw [hx.got h2, hy.got h4]
  refine ⟨_, .bool (xor neg (keq (cv x) (cv y))), ?_, .inr ?_, e⟩
  · unfold opEq eqA
    rw [h1, h3]
    rfl
  · show Value.bool (xorB neg _) = _
    rw [xorB_eq]

/-! ## Memory -/

noncomputable def kLoad (x : V) (K : V → St) : St := fun a t => on_p x fun d o => live (get d t) fun l => nthK o l fun y => K y a t
theorem kLoad_ref {x : V} {w : Value} (hx : VRel x w) {K : V → St} {K' : Value → M Value} (hK : KR K K') : Ref (kLoad x K) (bnd (opLoad w) K') := by
  refine Ref.step hK fun a t n h hr v a' t' e => ?_
  replace e := on_p_ok e
  obtain ⟨d, o, rfl, e⟩ := e
  replace e := live_ok e
  obtain ⟨l, kd, h1, h2, e⟩ := e
  replace e := nthK_ok e
  obtain ⟨y, h3, e⟩ := e
  rw [hx.got (by simp)]
  exact ⟨y, cv y, a, t, n, h, rd_of (hr.got h1) h2 h3, .of _, hr, e⟩
noncomputable def kLoadN (k : Nat) (x : V) (K : V → St) : St := fun a t => on_p x fun d o => live (get d t) fun l => dropK o l fun l => takeK k l fun l => K (.a l) a t
theorem kLoadN_ref {k : Nat} {x : V} {w : Value} (hx : VRel x w) {K : V → St} {K' : Value → M Value} (hK : KR K K') : Ref (kLoadN k x K) (bnd (opLoadN k w) K') := by
  refine Ref.step hK fun a t n h hr v a' t' e => ?_
  replace e := on_p_ok e
  obtain ⟨d, o, rfl, e⟩ := e
  replace e := live_ok e
  obtain ⟨l, kd, h1, h2, e⟩ := e
  replace e := dropK_ok e
  obtain ⟨l1, h3, h4, e⟩ := e
  replace e := takeK_ok e
  obtain ⟨l2, h5, h6, e⟩ := e
  rw [hx.got (by simp)]
  refine ⟨.a l2, _, a, t, n, h, ?_, .of _, hr, e⟩
  show bnd (rdN (num d) o k) (fun cs => ret (Value.agg cs.toArray)) n h = _
  rw [bnd_of (rdN_of (hr.got h1) h2 (by rw [h3] at h6; simp at h6; omega)), ← h3, ← h5]
  rfl
noncomputable def kStore (x v : V) (K : V → St) : St := fun a t => on_p x fun d o => mine (get d t) fun f l => oneK v (setK v o l fun l' => K .u a (put d (f l') t))
theorem kStore_ref {x y : V} {w u : Value} (hx : VRel x w) (hy : VRel y u) {K : V → St} {K' : Value → M Value} (hK : KR K K') : Ref (kStore x y K) (bnd (opStore w u) K') := by
  refine Ref.step hK fun a t n h hr v a' t' e => ?_
  replace e := on_p_ok e
  obtain ⟨d, o, rfl, e⟩ := e
  replace e := mine_ok e
  obtain ⟨l, f, kd, hk, h1, h2, e⟩ := e
  replace e := oneK_ok e
  obtain ⟨h3, e⟩ := e
  replace e := setK_ok e
  obtain ⟨l', h4, h5, e⟩ := e
  have hyu : y ≠ .u := by rintro rfl; cases h3
  rw [hx.got (by simp), hy.got hyu]
  refine ⟨.u, undef, a, put d (f l') t, n, _, ?_, .u _, hr.put (by rw [hr.got h1]; rfl) (h2 l'), e⟩
  show bnd (wr1 (num d) o (cv y)) (fun _ => ret undef) n h = _
  rw [bnd_of (wr1_of (hr.got h1) hk h3 h5), h4]
  rfl
noncomputable def kStoreN (k : Nat) (x v : V) (K : V → St) : St := fun a t => on_p x fun d o => on_a v fun vs => mine (get d t) fun f l => ifR (Nat.beq (lenV vs) k) (onesK vs (overAtK vs o l fun l' => K .u a (put d (f l') t))) .bad
theorem kStoreN_ref {k : Nat} {x y : V} {w u : Value} (hx : VRel x w) (hy : VRel y u) {K : V → St} {K' : Value → M Value} (hK : KR K K') : Ref (kStoreN k x y K) (bnd (opStoreN k w u) K') := by
  refine Ref.step hK fun a t n h hr v a' t' e => ?_
  replace e := on_p_ok e
  obtain ⟨d, o, rfl, e⟩ := e
  replace e := on_a_ok e
  obtain ⟨vs, rfl, e⟩ := e
  replace e := mine_ok e
  obtain ⟨l, f, kd, hk, h1, h2, e⟩ := e
  replace e := ifR_ok e
  rcases e with ⟨hb, e⟩ | ⟨_, e⟩
  · replace e := onesK_ok e
    obtain ⟨h3, e⟩ := e
    replace e := overAtK_ok e
    obtain ⟨l', h4, h5, e⟩ := e
    rw [hx.got (by simp), hy.got (by simp)]
    have hlen := Nat.eq_of_beq_eq_true hb
    refine ⟨.u, undef, a, put d (f l') t, n, _, ?_, .u _, hr.put (by rw [hr.got h1]; rfl) (h2 l'), e⟩
    show (if (cvL vs).toArray.size = k then bnd (wrN (num d) o (cvL vs).toArray.toList) fun _ => ret undef else fail) n h = _
    rw [if_pos (by rw [← hlen, ← lenV_eq]; simp), List.toList_toArray]
    rw [bnd_of (wrN_of (hr.got h1) hk h3 h5), h4]
    rfl
  · cases e

/-- A new block of the run's own. -/
noncomputable def kPtr (l : V) (K : V → St) : St := fun a t => onesK l (inc (K (.p a 0)) a (put a (.own l) t))
theorem kPtr_ref {l : V} {cs : List Value} (hl : ∀ v a t, (∀ k : R, onesK l k = .ok v a t → cvL l = cs)) {K : V → St} {K' : Value → M Value} (hK : KR K K') : Ref (kPtr l K) (bnd (opPtr cs) K') := by
  refine Ref.step hK fun a t n h hr v a' t' e => ?_
  have hcs := hl _ _ _ _ e
  replace e := onesK_ok e
  obtain ⟨h1, e⟩ := e
  replace e := inc_ok e
  obtain ⟨b, hb, e⟩ := e
  rw [hcs] at h1
  refine ⟨.p a 0, _, b, _, n + 1, _, ?_, .of _, hr.new hb (B := .own l) (C := ⟨cs, .own⟩) (by show some _ = _; rw [hcs]), e⟩
  show bnd (new cs .own) (fun b => ret (Value.pointer (some ⟨b, 0, none⟩))) n h = _
  rw [bnd_of (new_of (hr.fresh n (Nat.le_refl _)) h1), hr.n_eq]
  rfl
theorem kPtr_cells {l : V} {K : V → St} {K' : Value → M Value} (hK : KR K K') : Ref (kPtr l K) (bnd (opPtr (cvL l)) K') := kPtr_ref (fun _ _ _ _ _ => rfl) hK
theorem kPtr_one {x : V} {w : Value} (hx : VRel x w) {K : V → St} {K' : Value → M Value} (hK : KR K K') : Ref (kPtr (.cons x .nil) K) (bnd (opPtr [w]) K') := by
  refine kPtr_ref (fun v a t k e => ?_) hK
  have := oneK_ok (show oneK x (onesK .nil k) = _ from e)
  have hxu : x ≠ .u := by rintro rfl; cases this.1
  rw [hx.got hxu]
  rfl
noncomputable def kBoxN (x : V) (K : V → St) : St := fun a t => on_a x fun l => kPtr l K a t
theorem kBoxN_ref {x : V} {w : Value} (hx : VRel x w) {K : V → St} {K' : Value → M Value} (hK : KR K K') : Ref (kBoxN x K) (bnd (opBoxN w) K') := by
  intro a t n h hr v a' t' e
  replace e := on_a_ok e
  obtain ⟨l, rfl, e⟩ := e
  have := kPtr_cells (l := l) hK a t n h hr v a' t' e
  rw [hx.got (by simp)]
  show ∃ w n' h', bnd (opPtr (cvL l).toArray.toList) K' n h = _ ∧ _
  rw [List.toList_toArray]
  exact this

/-! ## Values with parts -/

/-- A part: where, how many cells, whether it has parts itself, its value. -/
structure Pt where
  off : Nat
  size : Nat
  ag : Bool
  v : V
noncomputable def fillK (ps : List Pt) : V → (V → R) → R := @List.rec Pt (fun _ => V → (V → R) → R) (fun l k => k l) (fun p _ ih l k => @Bool.rec (fun _ => R) (oneK p.v (ifR (Nat.beq p.size 1) (setK p.v p.off l fun l' => ih l' k) .bad)) (on_a p.v fun xs => ifR (Nat.beq (lenV xs) p.size) (overAtK xs p.off l fun l' => ih l' k) .bad) p.ag) ps
inductive PR : List Pt → List (Nat × Nat × Bool × Value) → Prop where
  | nil : PR [] []
  | cons {o s : Nat} {g : Bool} {v : V} {w : Value} {ps qs} : VRel v w → PR ps qs → PR (⟨o, s, g, v⟩ :: ps) ((o, s, g, w) :: qs)
theorem fillK_ok {ps : List Pt} {qs : List (Nat × Nat × Bool × Value)} (hp : PR ps qs) : ∀ {l : V} {k : V → R} {v : V} {a : Ad} {t : T4}, fillK ps l k = .ok v a t → ∃ l', fillA (cvL l) qs = some (cvL l') ∧ k l' = .ok v a t := by
  induction hp with
  | nil => intro l k v a t e; exact ⟨l, rfl, e⟩
  | @cons o s g x w ps qs hx _ ih =>
    intro l k v a t e
    cases g with
    | false =>
      replace e := oneK_ok (show oneK x (ifR (Nat.beq s 1) (setK x o l fun l' => fillK ps l' k) .bad) = _ from e)
      obtain ⟨h1, e⟩ := e
      replace e := ifR_ok e
      rcases e with ⟨hb, e⟩ | ⟨_, e⟩
      · replace e := setK_ok e
        obtain ⟨l1, h2, h3, e⟩ := e
        replace e := ih e
        obtain ⟨l2, h4, e⟩ := e
        have hs := Nat.eq_of_beq_eq_true hb
        have hxu : x ≠ .u := by rintro rfl; cases h1
        refine ⟨l2, ?_, e⟩
        rw [hx.got hxu]
        show (if one (cv x) && s == 1 && decide (o < (cvL l).length) then fillA ((cvL l).set o (cv x)) qs else none) = _
        rw [if_pos (by simp [h1, hs, h3]), ← h2, h4]
      · cases e
    | true =>
      replace e := on_a_ok (show on_a x (fun xs => ifR (Nat.beq (lenV xs) s) (overAtK xs o l fun l' => fillK ps l' k) .bad) = _ from e)
      obtain ⟨xs, rfl, e⟩ := e
      replace e := ifR_ok e
      rcases e with ⟨hb, e⟩ | ⟨_, e⟩
      · replace e := overAtK_ok e
        obtain ⟨l1, h2, h3, e⟩ := e
        replace e := ih e
        obtain ⟨l2, h4, e⟩ := e
        have hs := Nat.eq_of_beq_eq_true hb
        rw [← lenV_eq] at hs
        refine ⟨l2, ?_, e⟩
        rw [hx.got (by simp)]
        show (if decide ((cvL xs).toArray.size = s) && decide (o + s ≤ (cvL l).length) then fillA (over (cvL l) o (cvL xs).toArray.toList) qs else none) = _
        rw [if_pos (by simp [hs]; omega), List.toList_toArray, ← h2, h4]
      · cases e

noncomputable def kBuild (z : V) (ps : List Pt) (K : V → St) : St := fun a t => fillK ps z fun l => K (.a l) a t
theorem kBuild_ref {z : V} {ps : List Pt} {qs : List (Nat × Nat × Bool × Value)} (hp : PR ps qs) {K : V → St} {K' : Value → M Value} (hK : KR K K') : Ref (kBuild z ps K) (bnd (opBuild (cvL z) qs) K') := by
  refine Ref.val hK fun a t v a' t' e => ?_
  replace e := fillK_ok hp e
  obtain ⟨l, h1, e⟩ := e
  refine ⟨.a l, _, ?_, .of _, e⟩
  unfold opBuild
  rw [h1]
  rfl
/-- A new block, and a slice of it. -/
noncomputable def newS (n c : Nat) (l : V) (K : V → St) : St := fun a t => onesK l (inc (K (.s a 0 n c)) a (put a (.own l) t))
noncomputable def kBuildSlice (n : Nat) (z : V) (ps : List Pt) (K : V → St) : St := fun a t => fillK ps z fun l => newS n n l K a t
theorem newS_ok {m c : Nat} {l : V} {K : V → St} {a : Ad} {t : T4} {n : Nat} {h : H} (hr : HR a t n h) {v : V} {a' : Ad} {t' : T4} (e : newS m c l K a t = .ok v a' t') :
    ∃ a1 t1 n1 h1, bnd (new (cvL l) .own) (fun b => ret (Value.slice (some ⟨b, 0, none⟩) m c)) n h = some (cv (.s a 0 m c), n1, h1) ∧ HR a1 t1 n1 h1 ∧ K (.s a 0 m c) a1 t1 = .ok v a' t' := by
  replace e := onesK_ok e
  obtain ⟨h1, e⟩ := e
  replace e := inc_ok e
  obtain ⟨b, hb, e⟩ := e
  refine ⟨b, _, n + 1, _, ?_, hr.new hb (B := .own l) rfl, e⟩
  rw [bnd_of (new_of (hr.fresh n (Nat.le_refl _)) h1), hr.n_eq]
  rfl
theorem kBuildSlice_ref {m : Nat} {z : V} {ps : List Pt} {qs : List (Nat × Nat × Bool × Value)} (hp : PR ps qs) {K : V → St} {K' : Value → M Value} (hK : KR K K') : Ref (kBuildSlice m z ps K) (bnd (opBuildSlice m (cvL z) qs) K') := by
  refine Ref.step hK fun a t n h hr v a' t' e => ?_
  replace e := fillK_ok hp e
  obtain ⟨l, h1, e⟩ := e
  obtain ⟨a1, t1, n1, h2, e1, e2, e3⟩ := newS_ok hr e
  refine ⟨_, _, a1, t1, n1, h2, ?_, .of (.s a 0 m m), e2, e3⟩
  unfold opBuildSlice
  rw [h1]
  exact e1
noncomputable def kMake (bytes : Nat) (z l c : V) (K : V → St) : St := fun a t => onNat l fun l => onNat c fun c => ifR (Nat.ble l c) (ifR (Nat.ble c 1099511627776) (ifR (Nat.ble (Nat.mul bytes c) 70368744177664) (newS l c (repK z c) K a t) .bad) .bad) .bad
theorem kMake_ref {bytes : Nat} {z l c : V} {w u : Value} (hl : VRel l w) (hc : VRel c u) {K : V → St} {K' : Value → M Value} (hK : KR K K') : Ref (kMake bytes z l c K) (bnd (opMake bytes (cvL z) w u) K') := by
  refine Ref.step hK fun a t n h hr v a' t' e => ?_
  replace e := onNat_ok e
  obtain ⟨k1, m, hm, hm0, e⟩ := e
  replace e := onNat_ok e
  obtain ⟨k2, m2, hm2, hm20, e⟩ := e
  replace e := ifR_ok e
  rcases e with ⟨b1, e⟩ | ⟨_, e⟩
  · replace e := ifR_ok e
    rcases e with ⟨b2, e⟩ | ⟨_, e⟩
    · replace e := ifR_ok e
      rcases e with ⟨b3, e⟩ | ⟨_, e⟩
      · have b1 := Nat.le_of_ble_eq_true b1
        have b2 := Nat.le_of_ble_eq_true b2
        have b3 : bytes * m2 ≤ 70368744177664 := Nat.le_of_ble_eq_true b3
        obtain ⟨a1, t1, n1, h2, e1, e2, e3⟩ := newS_ok hr e
        rw [repK_eq] at e1
        rw [hl.got hm0, hc.got hm20, hm, hm2]
        refine ⟨_, _, a1, t1, n1, h2, ?_, .of (.s a 0 m m2), e2, e3⟩
        show (if 0 ≤ (m : Int) ∧ (m : Int) ≤ (m2 : Int) ∧ (m2 : Int) ≤ 1099511627776 ∧ bytes * (m2 : Int).toNat ≤ 70368744177664 then bnd (new (rep (m2 : Int).toNat (cvL z)) .own) (fun b => ret (Value.slice (some ⟨b, 0, none⟩) (m : Int).toNat (m2 : Int).toNat)) else fail) n h = _
        rw [if_pos (by simp only [Int.toNat_natCast]; omega)]
        exact e1
      · cases e
    · cases e
  · cases e

/-! ## Slices -/

/-- A slice: nil, or not. -/
noncomputable def onSl (x : V) (e : R) (k : Ad → Nat → Nat → Nat → R) : R := @V.rec (fun _ => R) (.bad) (.bad) (fun _ => .bad) (fun _ => .bad) (fun _ _ => .bad) (fun _ => .bad) (fun _ _ => .bad) (.bad) (fun a o len cap => k a o len cap) (e) (.bad) (fun _ _ _ _ => .bad) (fun _ _ => .bad) (fun _ _ => .bad) (fun _ => .bad) (.bad) (fun _ _ _ => .bad) (.bad) (fun _ _ _ => .bad) (.bad) (fun _ => .bad) x
theorem onSl_ok {x : V} {e : R} {k : Ad → Nat → Nat → Nat → R} {v : V} {a : Ad} {t : T4} (h : onSl x e k = .ok v a t) : (x = .ns ∧ e = .ok v a t) ∨ ∃ d o l c, x = .s d o l c ∧ k d o l c = .ok v a t := by
  cases x <;> first | exact .inl ⟨rfl, h⟩ | exact .inr ⟨_, _, _, _, rfl, h⟩ | cases h
noncomputable def kLen (x : V) (K : V → St) : St := fun a t => onSl x (K (.i (.ofNat 0)) a t) fun _ _ l _ => K (.i (.ofNat l)) a t
theorem kLen_ref {x : V} {w : Value} (hx : VRel x w) {K : V → St} {K' : Value → M Value} (hK : KR K K') : Ref (kLen x K) (bnd (opLen w) K') := by
  refine Ref.val hK fun a t v a' t' e => ?_
  replace e := onSl_ok e
  rcases e with ⟨rfl, e⟩ | ⟨d, o, l, c, rfl, e⟩
  · rw [hx.got (by simp)]; exact ⟨_, _, rfl, .of (.i 0), e⟩
  · rw [hx.got (by simp)]; exact ⟨_, _, rfl, .of (.i l), e⟩

/-- A capacity that is known, or one that isn't. -/
noncomputable def capOK (cap size : Nat) (k : R) : R := ifR (Nat.blt cap 18446744073709551616) k (ifR (Nat.beq cap (Nat.add 18446744073709551616 size)) k .bad)
theorem capOK_ok {cap size : Nat} {k : R} {v : V} {a : Ad} {t : T4} (h : capOK cap size k = .ok v a t) : (cap = U + size ∨ cap < U) ∧ k = .ok v a t := by
  rcases ifR_ok h with ⟨b, h⟩ | ⟨_, h⟩
  · exact ⟨.inr (blt_lt b), h⟩
  · rcases ifR_ok h with ⟨b, h⟩ | ⟨_, h⟩
    · exact ⟨.inl (Nat.eq_of_beq_eq_true b), h⟩
    · cases h
/-- All cells of a slice. -/
noncomputable def cellsK (size : Nat) (x : V) (t : T4) (k : V → R) : R := onSl x (k .nil) fun d o n _ => ifR (Nat.beq n 0) (k .nil) (live (get d t) fun l => dropK o l fun l => takeK (Nat.mul n size) l k)
theorem cellsK_ok {size : Nat} {x : V} {a : Ad} {t : T4} {n : Nat} {h : H} (hr : HR a t n h) {k : V → R} {v : V} {a' : Ad} {t' : T4} (e : cellsK size x t k = .ok v a' t') : ∃ l, cellsOf size (cv x) n h = some (cvL l, n, h) ∧ k l = .ok v a' t' := by
  replace e := onSl_ok e
  rcases e with ⟨rfl, e⟩ | ⟨d, o, l, c, rfl, e⟩
  · exact ⟨.nil, rfl, e⟩
  · replace e := ifR_ok e
    rcases e with ⟨b, e⟩ | ⟨b, e⟩
    · have := Nat.eq_of_beq_eq_true b
      subst this
      exact ⟨.nil, rfl, e⟩
    · have h0 := Nat.ne_of_beq_eq_false b
      replace e := live_ok e
      obtain ⟨l1, kd, h1, h2, e⟩ := e
      replace e := dropK_ok e
      obtain ⟨l2, h3, h4, e⟩ := e
      replace e := takeK_ok e
      obtain ⟨l3, h5, h6, e⟩ := e
      refine ⟨l3, ?_, e⟩
      show (if l = 0 then ret [] else rdN (num d) o (l * size)) n h = _
      rw [if_neg h0, rdN_of (hr.got h1) h2 (by rw [h3] at h6; simp at h6; omega), ← h3]
      exact congrArg (fun q => some (q, n, h)) h5.symm

/-- A new block that may grow, and a slice of it. -/
noncomputable def newG (n size : Nat) (l : V) (K : V → St) : St := fun a t => onesK l (inc (K (.s a 0 n (Nat.add 18446744073709551616 size))) a (put a (.grow l) t))
theorem newG_ok {m size : Nat} {l : V} {K : V → St} {a : Ad} {t : T4} {n : Nat} {h : H} (hr : HR a t n h) {v : V} {a' : Ad} {t' : T4} (e : newG m size l K a t = .ok v a' t') :
    ∃ a1 t1 n1 h1, bnd (new (cvL l) .grow) (fun b => ret (Value.slice (some ⟨b, 0, none⟩) m (U + size))) n h = some (cv (.s a 0 m (U + size)), n1, h1) ∧ HR a1 t1 n1 h1 ∧ K (.s a 0 m (U + size)) a1 t1 = .ok v a' t' := by
  replace e := onesK_ok e
  obtain ⟨h1, e⟩ := e
  replace e := inc_ok e
  obtain ⟨b, hb, e⟩ := e
  refine ⟨b, _, n + 1, _, ?_, hr.new hb (B := .grow l) rfl, e⟩
  rw [bnd_of (new_of (hr.fresh n (Nat.le_refl _)) h1), hr.n_eq]
  rfl

noncomputable def kAppend (size bytes : Nat) (s x : V) (K : V → St) : St := fun a t =>
  onSl x (onSl s (K .ns a t) fun d o l c => capOK c size (K (.s d o l c) a t)) fun xd xo n xc =>
    ifR (Nat.beq n 0) (onSl s (K .ns a t) fun d o l c => capOK c size (K (.s d o l c) a t))
      (cellsK size (.s xd xo n xc) t fun news =>
        onSl s
          (ifR (Nat.ble n 1099511627776) (ifR (Nat.ble (Nat.mul n bytes) 70368744177664) (newG n size news K a t) .bad) .bad)
          fun d o l c => ifR (Nat.ble (Nat.add l n) 1099511627776) (ifR (Nat.ble (Nat.mul (Nat.add l n) bytes) 70368744177664)
            (ifR (Nat.blt c 18446744073709551616)
              (ifR (Nat.blt c (Nat.add l n))
                (cellsK size (.s d o l c) t fun olds => newG (Nat.add l n) size (app olds news) K a t)
                (mine (get d t) fun f cs => onesK news (overAtK news (Nat.add o (Nat.mul l size)) cs fun cs' => K (.s d o (Nat.add l n) c) a (put d (f cs') t))))
              (ifR (Nat.beq c (Nat.add 18446744073709551616 size))
                (cellsK size (.s d o l c) t fun olds => grown (get d t) fun _ => newG (Nat.add l n) size (app olds news) K a (put d (.dead .nil) t))
                .bad)) .bad) .bad)

theorem kAppend_ref {size bytes : Nat} {s x : V} {w u : Value} (hs : VRel s w) (hx : VRel x u) {K : V → St} {K' : Value → M Value} (hK : KR K K') : Ref (kAppend size bytes s x K) (bnd (opAppend size bytes w u) K') := by
  have nothing : ∀ {a t n h v a' t'} (len cap : Nat) (xa : Option Addr), HR a t n h → u = .slice xa 0 cap → onSl s (K .ns a t) (fun d o l c => capOK c size (K (.s d o l c) a t)) = .ok v a' t' →
      ∃ x w0 a1 t1 n1 h1, opAppend size bytes w u n h = some (w0, n1, h1) ∧ VRel x w0 ∧ HR a1 t1 n1 h1 ∧ K x a1 t1 = .ok v a' t' := by
    intro a t n h v a' t' len cap xa hr hu e
    rw [hu]
    replace e := onSl_ok e
    rcases e with ⟨rfl, e⟩ | ⟨d, o, l, c, rfl, e⟩
    · rw [hs.got (by simp)]
      exact ⟨.ns, _, a, t, n, h, rfl, .of _, hr, e⟩
    · replace e := capOK_ok e
      obtain ⟨hc, e⟩ := e
      rw [hs.got (by simp)]
      refine ⟨.s d o l c, _, a, t, n, h, ?_, .of _, hr, e⟩
      show (if c = U + size ∨ c < U then ret (Value.slice (some ⟨num d, o, none⟩) l c) else fail) n h = _
      rw [if_pos hc]
      rfl
  refine Ref.step hK fun a t n h hr v a' t' e => ?_
  replace e := onSl_ok e
  rcases e with ⟨rfl, e⟩ | ⟨xd, xo, m, xc, rfl, e⟩
  · exact nothing 0 0 none hr (hx.got (by simp)) e
  replace e := ifR_ok e
  rcases e with ⟨b, e⟩ | ⟨b, e⟩
  · have := Nat.eq_of_beq_eq_true b
    subst this
    exact nothing 0 xc _ hr (hx.got (by simp)) e
  have hm0 := Nat.ne_of_beq_eq_false b
  replace e := cellsK_ok hr e
  obtain ⟨news, hn, e⟩ := e
  replace hn : cellsOf size (Value.slice (some ⟨num xd, xo, none⟩) m xc) n h = some (cvL news, n, h) := hn
  rw [hx.got (by simp)]
  replace e := onSl_ok e
  rcases e with ⟨rfl, e⟩ | ⟨d, o, l, c, rfl, e⟩
  · replace e := ifR_ok e
    rcases e with ⟨b1, e⟩ | ⟨_, e⟩
    · replace e := ifR_ok e
      rcases e with ⟨b2, e⟩ | ⟨_, e⟩
      · have b1 := Nat.le_of_ble_eq_true b1
        have b2 : m * bytes ≤ 70368744177664 := Nat.le_of_ble_eq_true b2
        obtain ⟨a1, t1, n1, h2, e1, e2, e3⟩ := newG_ok hr e
        rw [hs.got (by simp)]
        refine ⟨_, _, a1, t1, n1, h2, ?_, .of (.s a 0 m (U + size)), e2, e3⟩
        show (if m = 0 then _ else if 0 + m ≤ 1099511627776 ∧ (0 + m) * bytes ≤ 70368744177664 then
          bnd (cellsOf size (.slice (some ⟨num xd, xo, none⟩) m xc)) (fun news =>
            if 0 = U + size then fail
            else if 0 < 0 + m then bnd (cellsOf size (.slice none 0 0)) fun olds => bnd (new (olds ++ news) .grow) fun c => ret (Value.slice (some ⟨c, 0, none⟩) (0 + m) (U + size))
            else if 0 < U then fail else fail) else fail) n h = _
        rw [if_neg hm0, if_pos (by rw [Nat.zero_add]; exact ⟨b1, b2⟩), bnd_of hn, if_neg (by unfold U; omega), if_pos (by omega), Nat.zero_add]
        exact e1
      · cases e
    · cases e
  replace e := ifR_ok e
  rcases e with ⟨b1, e⟩ | ⟨_, e⟩
  case inr => cases e
  replace e := ifR_ok e
  rcases e with ⟨b2, e⟩ | ⟨_, e⟩
  case inr => cases e
  have b1 : l + m ≤ 1099511627776 := Nat.le_of_ble_eq_true b1
  have b2 : (l + m) * bytes ≤ 70368744177664 := Nat.le_of_ble_eq_true b2
  rw [hs.got (by simp)]
  have start : ∀ z, bnd (cellsOf size (.slice (some ⟨num xd, xo, none⟩) m xc)) (fun news =>
            if c = U + size then bnd (cellsOf size (.slice (some ⟨num d, o, none⟩) l c)) fun olds => bnd (kill (num d)) fun _ => bnd (new (olds ++ news) .grow) fun c => ret (Value.slice (some ⟨c, 0, none⟩) (l + m) (U + size))
            else if c < l + m then bnd (cellsOf size (.slice (some ⟨num d, o, none⟩) l c)) fun olds => bnd (new (olds ++ news) .grow) fun c => ret (Value.slice (some ⟨c, 0, none⟩) (l + m) (U + size))
            else if c < U then bnd (wrN (num d) (o + l * size) news) fun _ => ret (Value.slice (some ⟨num d, o, none⟩) (l + m) c) else fail) n h = z → opAppend size bytes (cv (.s d o l c)) (cv (.s xd xo m xc)) n h = z := by
    intro z hz
    show (if m = 0 then _ else if l + m ≤ 1099511627776 ∧ (l + m) * bytes ≤ 70368744177664 then _ else fail) n h = z
    rw [if_neg hm0, if_pos ⟨b1, b2⟩]
    exact hz
  replace e := ifR_ok e
  rcases e with ⟨b3, e⟩ | ⟨b3, e⟩
  · have b3 : c < U := blt_lt b3
    have hne : c ≠ U + size := by omega
    replace e := ifR_ok e
    rcases e with ⟨b4, e⟩ | ⟨b4, e⟩
    · have b4 : c < l + m := blt_lt b4
      replace e := cellsK_ok hr e
      obtain ⟨olds, ho, e⟩ := e
      obtain ⟨a1, t1, n1, h2, e1, e2, e3⟩ := newG_ok hr e
      refine ⟨_, _, a1, t1, n1, h2, start _ ?_, .of (.s a 0 (l + m) (U + size)), e2, e3⟩
      rw [bnd_of hn, if_neg hne, if_pos b4]
      show bnd (cellsOf size (cv (.s d o l c))) _ n h = _
      rw [bnd_of ho, ← app_eq]
      exact e1
    · have b4 : ¬ c < l + m := fun q => by
        have : Nat.blt c (l + m) = true := by unfold Nat.blt; exact Nat.ble_eq_true_of_le q
        have b4 : Nat.blt c (l + m) = false := b4
        rw [this] at b4; cases b4
      replace e := mine_ok e
      obtain ⟨cs, f, kd, hk, h1, h2, e⟩ := e
      replace e := onesK_ok e
      obtain ⟨h3, e⟩ := e
      replace e := overAtK_ok e
      obtain ⟨cs', h4, h5, e⟩ := e
      replace h4 : cvL cs' = over (cvL cs) (o + l * size) (cvL news) := h4
      replace h5 : o + l * size + (cvL news).length ≤ (cvL cs).length := h5
      refine ⟨.s d o (l + m) c, _, a, put d (f cs') t, n, _, start _ ?_, .of _, hr.put (by rw [hr.got h1]; rfl) (h2 cs'), e⟩
      rw [bnd_of hn, if_neg hne, if_neg b4, if_pos b3, bnd_of (wrN_of (hr.got h1) hk h3 h5), h4]
      rfl
  · replace e := ifR_ok e
    rcases e with ⟨b4, e⟩ | ⟨_, e⟩
    · have b4 : c = U + size := Nat.eq_of_beq_eq_true b4
      replace e := cellsK_ok hr e
      obtain ⟨olds, ho, e⟩ := e
      replace e := grown_ok e
      obtain ⟨gl, hg, e⟩ := e
      have hgd : h.get (num d) = some ⟨cvL gl, .grow⟩ := by rw [hr.blk, hg]; rfl
      have hr2 : HR a (put d (.dead .nil) t) n (h.set (num d) dead) := hr.put (by rw [hgd]; rfl) rfl
      obtain ⟨a1, t1, n1, h2, e1, e2, e3⟩ := newG_ok hr2 e
      refine ⟨_, _, a1, t1, n1, h2, start _ ?_, .of (.s a 0 (l + m) (U + size)), e2, e3⟩
      rw [bnd_of hn, if_pos b4]
      show bnd (cellsOf size (cv (.s d o l c))) _ n h = _
      rw [bnd_of ho, bnd_of (kill_of hgd), ← app_eq]
      exact e1
    · cases e

end Go.Fk
end
section
set_option linter.unusedVariables false
namespace Go.Fk
open Go Go.Fw

/-! ## Values that are reckoned as in the first machine -/

theorem kVal1_ref {f : Value → M Value} (hu : f undef = fail) (hr : ∀ w, IsRet (f w)) {x : V} {w : Value} (hx : VRel x w) {K : V → St} {K' : Value → M Value} (hK : KR K K') : Ref (kVal (f (cv x)) K) (bnd (f w) K') := by
  by_cases hxu : x = .u
  · subst hxu
    intro a t n h hr v a' t' e
    have : f (cv .u) = fail := hu
    rw [this] at e
    cases e
  · rw [hx.got hxu]
    exact kVal_ref (hr _) hK
theorem kVal2_ref {f : Value → Value → M Value} (hu : ∀ w, f undef w = fail) (hu2 : ∀ w, f w undef = fail) (hr : ∀ w u, IsRet (f w u)) {x y : V} {w u : Value} (hx : VRel x w) (hy : VRel y u) {K : V → St} {K' : Value → M Value} (hK : KR K K') : Ref (kVal (f (cv x) (cv y)) K) (bnd (f w u) K') := by
  by_cases hxu : x = .u
  · subst hxu
    intro a t n h hr v a' t' e
    have : f (cv .u) (cv y) = fail := hu _
    rw [this] at e
    cases e
  by_cases hyu : y = .u
  · subst hyu
    intro a t n h hr v a' t' e
    have : f (cv x) (cv .u) = fail := hu2 _
    rw [this] at e
    cases e
  rw [hx.got hxu, hy.got hyu]
  exact kVal_ref (hr _ _) hK

noncomputable def kCom (x : V) (K : V → St) : St := kVal (opCom (cv x)) K
theorem kCom_ref {x : V} {w : Value} (hx : VRel x w) {K : V → St} {K' : Value → M Value} (hK : KR K K') : Ref (kCom x K) (bnd (opCom w) K') := kVal1_ref rfl opCom_ret hx hK
noncomputable def kIndexS (x i : V) (K : V → St) : St := kVal (opIndexS (cv x) (cv i)) K
theorem kIndexS_ref {x i : V} {w u : Value} (hx : VRel x w) (hi : VRel i u) {K : V → St} {K' : Value → M Value} (hK : KR K K') : Ref (kIndexS x i K) (bnd (opIndexS w u) K') := kVal2_ref (fun w => rfl) (fun w => by cases w <;> rfl) opIndexS_ret hx hi hK
noncomputable def kLenS (x : V) (K : V → St) : St := kVal (opLenS (cv x)) K
theorem kLenS_ref {x : V} {w : Value} (hx : VRel x w) {K : V → St} {K' : Value → M Value} (hK : KR K K') : Ref (kLenS x K) (bnd (opLenS w) K') := kVal1_ref rfl opLenS_ret hx hK

noncomputable def kNeg (x : V) (K : V → St) : St := fun a t => on_w2 x (fun n => ifR (Nat.blt n 18446744073709551616) (K (.w (Nat.mod (Nat.sub 18446744073709551616 n) 18446744073709551616)) a t) (kVal (opNeg (cv x)) K a t)) (kVal (opNeg (cv x)) K a t)
theorem kNeg_ref {x : V} {w : Value} (hx : VRel x w) {K : V → St} {K' : Value → M Value} (hK : KR K K') : Ref (kNeg x K) (bnd (opNeg w) K') := by
  have slow : Ref (kVal (opNeg (cv x)) K) (bnd (opNeg w) K') := kVal1_ref rfl opNeg_ret hx hK
  intro a t n h hr v a' t' e
  rcases on_w2_ok e with ⟨m, hxm, e1⟩ | e1
  · rcases ifR_ok e1 with ⟨hb, e2⟩ | ⟨_, e2⟩
    · have hb := blt_lt hb
      subst hxm
      rw [hx.got (by simp)]
      have : opNeg (cv (.w m)) = ret (cv (.w ((18446744073709551616 - m) % 18446744073709551616))) := by
        show ret (Value.int .u64 (IntKind.u64.wrap (0 - (m : Int)))) = ret (Value.int .u64 _)
        rw [wrapU_mod]
        congr 2
        omega
      rw [this, ret_bnd]
      exact hK _ _ (.of _) _ _ _ _ hr _ _ _ e2
    · exact slow _ _ _ _ hr _ _ _ e2
  · exact slow _ _ _ _ hr _ _ _ e1
noncomputable def kConvI (x : V) (K : V → St) : St := fun a t => on_n x (fun n => ifR (Nat.blt n 9223372036854775808) (K x a t) (kVal (opConv .i64 (cv x)) K a t)) (on_w2 x (fun n => ifR (Nat.blt n 9223372036854775808) (K (.i (.ofNat n)) a t) (kVal (opConv .i64 (cv x)) K a t)) (kVal (opConv .i64 (cv x)) K a t))
noncomputable def kConvW (x : V) (K : V → St) : St := fun a t => on_n x (fun n => ifR (Nat.blt n 18446744073709551616) (K (.w n) a t) (kVal (opConv .u64 (cv x)) K a t)) (on_w2 x (fun n => ifR (Nat.blt n 18446744073709551616) (K x a t) (kVal (opConv .u64 (cv x)) K a t)) (kVal (opConv .u64 (cv x)) K a t))
noncomputable def kConvO (k : IntKind) (x : V) (K : V → St) : St := kVal (opConv k (cv x)) K
noncomputable def kConv (k : IntKind) : V → (V → St) → St := match k with
  | .i64 => kConvI
  | .u64 => kConvW
  | k => kConvO k
theorem kConv_ref {k : IntKind} {x : V} {w : Value} (hx : VRel x w) {K : V → St} {K' : Value → M Value} (hK : KR K K') : Ref (kConv k x K) (bnd (opConv k w) K') := by
  have slow : ∀ k, Ref (kVal (opConv k (cv x)) K) (bnd (opConv k w) K') := fun k => kVal1_ref rfl (opConv_ret k) hx hK
  have hi : Ref (kConvI x K) (bnd (opConv .i64 w) K') := by
    intro a t n h hr v a' t' e
    rcases on_n_ok e with ⟨m, hxm, e1⟩ | e1
    · rcases ifR_ok e1 with ⟨hb, e2⟩ | ⟨_, e2⟩
      · have hb := blt_lt hb
        subst hxm
        rw [hx.got (by simp)]
        have : opConv .i64 (cv (.i (.ofNat m))) = ret (cv (.i (.ofNat m))) := by
          show ret (Value.int .i64 (IntKind.i64.wrap (m : Int))) = ret (Value.int .i64 _)
          rw [wrap64 (by omega)]
          rfl
        rw [this, ret_bnd]
        exact hK _ _ (.of _) _ _ _ _ hr _ _ _ e2
      · exact slow _ _ _ _ _ hr _ _ _ e2
    · rcases on_w2_ok e1 with ⟨m, hxm, e2⟩ | e2
      · rcases ifR_ok e2 with ⟨hb, e3⟩ | ⟨_, e3⟩
        · have hb := blt_lt hb
          subst hxm
          rw [hx.got (by simp)]
          have : opConv .i64 (cv (.w m)) = ret (cv (.i (.ofNat m))) := by
            show ret (Value.int .i64 (IntKind.i64.wrap (m : Int))) = ret (Value.int .i64 _)
            rw [wrap64 (by omega)]
            rfl
          rw [this, ret_bnd]
          exact hK _ _ (.of _) _ _ _ _ hr _ _ _ e3
        · exact slow _ _ _ _ _ hr _ _ _ e3
      · exact slow _ _ _ _ _ hr _ _ _ e2
  have hw : Ref (kConvW x K) (bnd (opConv .u64 w) K') := by
    intro a t n h hr v a' t' e
    rcases on_n_ok e with ⟨m, hxm, e1⟩ | e1
    · rcases ifR_ok e1 with ⟨hb, e2⟩ | ⟨_, e2⟩
      · have hb := blt_lt hb
        subst hxm
        rw [hx.got (by simp)]
        have : opConv .u64 (cv (.i (.ofNat m))) = ret (cv (.w m)) := by
          show ret (Value.int .u64 (IntKind.u64.wrap (m : Int))) = ret (Value.int .u64 _)
          rw [wrapU (by omega)]
        rw [this, ret_bnd]
        exact hK _ _ (.of _) _ _ _ _ hr _ _ _ e2
      · exact slow _ _ _ _ _ hr _ _ _ e2
    · rcases on_w2_ok e1 with ⟨m, hxm, e2⟩ | e2
      · rcases ifR_ok e2 with ⟨hb, e3⟩ | ⟨_, e3⟩
        · have hb := blt_lt hb
          subst hxm
          rw [hx.got (by simp)]
          have : opConv .u64 (cv (.w m)) = ret (cv (.w m)) := by
            show ret (Value.int .u64 (IntKind.u64.wrap (m : Int))) = ret (Value.int .u64 _)
            rw [wrapU (by omega)]
          rw [this, ret_bnd]
          exact hK _ _ (.of _) _ _ _ _ hr _ _ _ e3
        · exact slow _ _ _ _ _ hr _ _ _ e3
      · exact slow _ _ _ _ _ hr _ _ _ e2
  cases k <;> first | exact hi | exact hw | exact slow _

/-! ## Lists of values -/

inductive VL' : List V → List Value → Prop where
  | nil : VL' [] []
  | cons {a : V} {b : Value} {l₁ : List V} {l₂ : List Value} : VRel a b → VL' l₁ l₂ → VL' (a :: l₁) (b :: l₂)
/-- All are known. -/
noncomputable def strictK (x : V) (k : R) : R := @V.rec (fun _ => R) (.bad) (k) (fun _ => k) (fun _ => k) (fun _ _ => k) (fun _ => k) (fun _ _ => k) (k) (fun _ _ _ _ => k) (k) (k) (fun _ _ _ _ => k) (fun _ _ => k) (fun _ _ => k) (fun _ => k) (k) (fun _ _ _ => k) (k) (fun _ _ _ => k) (k) (fun _ => k) x
theorem strictK_ok {x : V} {k : R} {v : V} {a : Ad} {t : T4} (h : strictK x k = .ok v a t) : x ≠ .u ∧ k = .ok v a t := by cases x <;> first | exact ⟨by simp, h⟩ | cases h
noncomputable def strictL (xs : List V) (k : R) : R := @List.rec V (fun _ => R) k (fun x _ ih => strictK x ih) xs
theorem strictL_ok {k : R} {v : V} {a : Ad} {t : T4} : ∀ {xs : List V} {ws : List Value}, VL' xs ws → strictL xs k = .ok v a t → ws = xs.map cv ∧ k = .ok v a t
  | _, _, .nil, h => ⟨rfl, h⟩
  | _, _, .cons (a := x) (l₁ := xs) hx hs, h => by
    obtain ⟨h1, h2⟩ := strictK_ok (show strictK x (strictL xs k) = _ from h)
    obtain ⟨h3, h4⟩ := strictL_ok hs h2
    exact ⟨by rw [List.map_cons, h3, hx.got h1], h4⟩
noncomputable def kMax (xs : List V) (K : V → St) : St := fun a t => strictL xs (kVal (opMax (xs.map cv)) K a t)
noncomputable def kMin (xs : List V) (K : V → St) : St := fun a t => strictL xs (kVal (opMin (xs.map cv)) K a t)
theorem kMax_ref {xs : List V} {ws : List Value} (hx : VL' xs ws) {K : V → St} {K' : Value → M Value} (hK : KR K K') : Ref (kMax xs K) (bnd (opMax ws) K') := by
  intro a t n h hr v a' t' e
  obtain ⟨h1, e⟩ := strictL_ok hx e
  rw [h1]
  exact kVal_ref (opMax_ret _) hK _ _ _ _ hr _ _ _ e
theorem kMin_ref {xs : List V} {ws : List Value} (hx : VL' xs ws) {K : V → St} {K' : Value → M Value} (hK : KR K K') : Ref (kMin xs K) (bnd (opMin ws) K') := by
  intro a t n h hr v a' t' e
  obtain ⟨h1, e⟩ := strictL_ok hx e
  rw [h1]
  exact kVal_ref (opMin_ret _) hK _ _ _ _ hr _ _ _ e

/-! ## Slices of slices -/

noncomputable def bndK (o : Option V) (d : Nat) (k : Nat → R) : R := @Option.rec V (fun _ => R) (k d) (fun x => onNat x k) o
inductive OR : Option V → Option Value → Prop where
  | none : OR none none
  | some {x : V} {w : Value} : VRel x w → OR (some x) (some w)
theorem bndK_ok {o : Option V} {u : Option Value} (ho : OR o u) {d : Nat} {k : Nat → R} {v : V} {a : Ad} {t : T4} (h : bndK o d k = .ok v a t) : ∃ n : Nat, u.elim (some (d : Int)) bound = some (n : Int) ∧ k n = .ok v a t := by
  cases ho with
  | none => exact ⟨d, rfl, h⟩
  | some hx =>
    obtain ⟨kd, n, h1, h2, h3⟩ := onNat_ok (show onNat _ k = _ from h)
    refine ⟨n, ?_, h3⟩
    rw [hx.got h2, h1]
    rfl
noncomputable def kSlice (size : Nat) (x : V) (lo hi mx : Option V) (K : V → St) : St := fun a t =>
  onSl x (bndK lo 0 fun l => bndK hi 0 fun h => @Option.rec V (fun _ => R)
      (ifR (Nat.ble l h) (ifR (Nat.ble h 0) (K .ns a t) .bad) .bad)
      (fun m => @Option.rec V (fun _ => R) .bad (fun _ => onNat m fun m => ifR (Nat.ble l h) (ifR (Nat.ble h m) (ifR (Nat.ble m 0) (K .ns a t) .bad) .bad) .bad) hi) mx)
    fun d o len cap => bndK lo 0 fun l => bndK hi len fun h => @Option.rec V (fun _ => R)
      (ifR (Nat.ble l h) (ifR (Nat.ble h len) (ifR (Nat.blt cap 18446744073709551616) (K (.s d (Nat.add o (Nat.mul l size)) (Nat.sub h l) (Nat.sub cap l)) a t) (ifR (Nat.beq cap (Nat.add 18446744073709551616 size)) (K (.s d (Nat.add o (Nat.mul l size)) (Nat.sub h l) cap) a t) .bad)) .bad) .bad)
      (fun m => @Option.rec V (fun _ => R) .bad (fun _ => onNat m fun m => ifR (Nat.ble l h) (ifR (Nat.ble h m) (ifR (Nat.ble m len) (ifR (Nat.ble m 1099511627776) (capOK cap size (K (.s d (Nat.add o (Nat.mul l size)) (Nat.sub h l) (Nat.sub m l)) a t)) .bad) .bad) .bad) .bad) hi) mx
theorem opSlice_some2 {size : Nat} {a : Option Addr} {len cap : Nat} {lo hi : Option Value} {l h : Nat} (h1 : lo.elim (some 0) bound = some (l : Int)) (h2 : hi.elim (some (len : Int)) bound = some (h : Int)) (h3 : l ≤ h) (h4 : h ≤ len) :
    opSlice size (.slice a len cap) lo hi none = (if cap = U + size then (match a with
              | some ⟨b, o, none⟩ => ret (Value.slice (some ⟨b, o + l * size, none⟩) (h - l) cap)
              | _ => fail)
            else if cap < U then (match a with
              | some ⟨b, o, none⟩ => ret (Value.slice (some ⟨b, o + l * size, none⟩) (h - l) (cap - l))
              | none => ret (Value.slice none 0 0)
              | _ => fail)
            else fail) := by
  have e1 : (((h : Int) - (l : Int)).toNat) = h - l := by omega
  have e0 : (none : Option Value).elim (some (-1 : Int)) bound = some (-1) := rfl
  unfold opSlice
  simp only [h1, h2, e0]
  rw [if_pos (by omega), if_pos (by omega)]
  simp only [Int.toNat_natCast, e1]
  rfl
theorem opSlice_some3 {size : Nat} {a : Option Addr} {len cap : Nat} {lo hi : Option Value} {x : Value} {l h m : Nat} (h1 : lo.elim (some 0) bound = some (l : Int)) (h2 : hi.elim (some (len : Int)) bound = some (h : Int)) (hs : hi.isSome = true) (hm : bound x = some (m : Int)) (h3 : l ≤ h) (h4 : h ≤ m) (h5 : m ≤ len) (h6 : m ≤ 1099511627776) :
    opSlice size (.slice a len cap) lo hi (some x) = (match a with
              | some ⟨b, o, none⟩ => if cap = U + size ∨ cap < U then ret (Value.slice (some ⟨b, o + l * size, none⟩) (h - l) (m - l)) else fail
              | none => ret (Value.slice none 0 0)
              | _ => fail) := by
  have e1 : (((h : Int) - (l : Int)).toNat) = h - l := by omega
  have e2 : (((m : Int) - (l : Int)).toNat) = m - l := by omega
  have e0 : (some x : Option Value).elim (some (-1 : Int)) bound = some (m : Int) := hm
  unfold opSlice
  simp only [h1, h2, e0]
  rw [if_pos (by omega), if_pos (by refine ⟨hs, ?_, ?_, ?_⟩ <;> omega)]
  simp only [Int.toNat_natCast, e1, e2]
  rfl
theorem kSlice_ref {size : Nat} {x : V} {w : Value} (hx : VRel x w) {lo hi mx : Option V} {lo' hi' mx' : Option Value} (hlo : OR lo lo') (hhi : OR hi hi') (hmx : OR mx mx') {K : V → St} {K' : Value → M Value} (hK : KR K K') :
    Ref (kSlice size x lo hi mx K) (bnd (opSlice size w lo' hi' mx') K') := by
  refine Ref.val hK fun a t v a' t' e => ?_
  replace e := onSl_ok e
  rcases e with ⟨rfl, e⟩ | ⟨d, o, len, cap, rfl, e⟩
  · rw [hx.got (by simp)]
    replace e := bndK_ok hlo e
    obtain ⟨l, hl, e⟩ := e
    replace e := bndK_ok hhi e
    obtain ⟨h, hh, e⟩ := e
    refine ⟨.ns, _, ?_, .of .ns, ?_⟩
    · cases hmx with
      | none =>
        rcases ifR_ok e with ⟨b1, e⟩ | ⟨_, e⟩
        · rcases ifR_ok e with ⟨b2, e⟩ | ⟨_, e⟩
          · have b1 := Nat.le_of_ble_eq_true b1
            have b2 := Nat.le_of_ble_eq_true b2
            show opSlice size (.slice none 0 0) lo' hi' none = _
            rw [opSlice_some2 hl hh b1 b2, if_neg (by unfold U; omega), if_pos (by unfold U; omega)]
            rfl
          · cases e
        · cases e
      | @some m u hm =>
        cases hhi with
        | none => cases e
        | @some y y' hy =>
        obtain ⟨kd, m, h1, h2, e⟩ := onNat_ok (show onNat _ (fun m => ifR (Nat.ble l h) (ifR (Nat.ble h m) (ifR (Nat.ble m 0) (K .ns a t) .bad) .bad) .bad) = _ from e)
        rcases ifR_ok e with ⟨b1, e⟩ | ⟨_, e⟩
        · rcases ifR_ok e with ⟨b2, e⟩ | ⟨_, e⟩
          · rcases ifR_ok e with ⟨b3, e⟩ | ⟨_, e⟩
            · have b1 := Nat.le_of_ble_eq_true b1
              have b2 := Nat.le_of_ble_eq_true b2
              have b3 := Nat.le_of_ble_eq_true b3
              show opSlice size (.slice none 0 0) lo' (some y') (some u) = _
              rw [opSlice_some3 hl hh rfl (by rw [hm.got h2, h1]; rfl) b1 b2 b3 (by omega)]
              rfl
            · cases e
          · cases e
        · cases e
    · cases hmx with
      | none =>
        rcases ifR_ok e with ⟨b1, e⟩ | ⟨_, e⟩
        · rcases ifR_ok e with ⟨b2, e⟩ | ⟨_, e⟩
          · exact e
          · cases e
        · cases e
      | @some m u hm =>
        cases hhi with
        | none => cases e
        | @some y y' hy =>
        obtain ⟨kd, m, h1, h2, e⟩ := onNat_ok (show onNat _ (fun m => ifR (Nat.ble l h) (ifR (Nat.ble h m) (ifR (Nat.ble m 0) (K .ns a t) .bad) .bad) .bad) = _ from e)
        rcases ifR_ok e with ⟨b1, e⟩ | ⟨_, e⟩
        · rcases ifR_ok e with ⟨b2, e⟩ | ⟨_, e⟩
          · rcases ifR_ok e with ⟨b3, e⟩ | ⟨_, e⟩
            · exact e
            · cases e
          · cases e
        · cases e
  · rw [hx.got (by simp)]
    replace e := bndK_ok hlo e
    obtain ⟨l, hl, e⟩ := e
    replace e := bndK_ok hhi e
    obtain ⟨h, hh, e⟩ := e
    cases hmx with
    | none =>
      rcases ifR_ok e with ⟨b1, e⟩ | ⟨_, e⟩
      · rcases ifR_ok e with ⟨b2, e⟩ | ⟨_, e⟩
        · have b1 := Nat.le_of_ble_eq_true b1
          have b2 := Nat.le_of_ble_eq_true b2
          rcases ifR_ok e with ⟨b3, e⟩ | ⟨_, e⟩
          · have b3 : cap < U := blt_lt b3
            refine ⟨_, _, ?_, .of (.s d (o + l * size) (h - l) (cap - l)), e⟩
            show opSlice size (.slice (some ⟨num d, o, none⟩) len cap) lo' hi' none = _
            rw [opSlice_some2 hl hh b1 b2, if_neg (by omega), if_pos b3]
            rfl
          · rcases ifR_ok e with ⟨b3, e⟩ | ⟨_, e⟩
            · have b3 : cap = U + size := Nat.eq_of_beq_eq_true b3
              refine ⟨_, _, ?_, .of (.s d (o + l * size) (h - l) cap), e⟩
              show opSlice size (.slice (some ⟨num d, o, none⟩) len cap) lo' hi' none = _
              rw [opSlice_some2 hl hh b1 b2, if_pos b3]
              rfl
            · cases e
        · cases e
      · cases e
    | @some m u hm =>
      cases hhi with
      | none => cases e
      | @some y y' hy =>
      obtain ⟨kd, m, h1, h2, e⟩ := onNat_ok (show onNat _ (fun m => ifR (Nat.ble l h) (ifR (Nat.ble h m) (ifR (Nat.ble m len) (ifR (Nat.ble m 1099511627776) (capOK cap size (K (.s d (Nat.add o (Nat.mul l size)) (Nat.sub h l) (Nat.sub m l)) a t)) .bad) .bad) .bad) .bad) = _ from e)
      rcases ifR_ok e with ⟨b1, e⟩ | ⟨_, e⟩
      · rcases ifR_ok e with ⟨b2, e⟩ | ⟨_, e⟩
        · rcases ifR_ok e with ⟨b3, e⟩ | ⟨_, e⟩
          · rcases ifR_ok e with ⟨b4, e⟩ | ⟨_, e⟩
            · have b1 := Nat.le_of_ble_eq_true b1
              have b2 := Nat.le_of_ble_eq_true b2
              have b3 := Nat.le_of_ble_eq_true b3
              have b4 := Nat.le_of_ble_eq_true b4
              obtain ⟨hc, e⟩ := capOK_ok e
              refine ⟨_, _, ?_, .of (.s d (o + l * size) (h - l) (m - l)), e⟩
              show opSlice size (.slice (some ⟨num d, o, none⟩) len cap) lo' (some y') (some u) = _
              rw [opSlice_some3 hl hh rfl (by rw [hm.got h2, h1]; rfl) b1 b2 b3 b4]
              show (if cap = U + size ∨ cap < U then _ else _) = _
              rw [if_pos hc]
              rfl
            · cases e
          · cases e
        · cases e
      · cases e

/-- Both ends are given. -/
noncomputable def kSlc (size : Nat) (x l h : V) (K : V → St) : St := fun a t =>
  onSl x (kSlice size x (some l) (some h) none K a t) fun d o len cap => onNat h fun j => ifR (Nat.ble j len) (kSlice size x (some l) (some h) none K a t)
    (ifR (Nat.beq cap (Nat.add 18446744073709551616 size)) (onNat l fun i => ifR (Nat.ble i j) (ifR (Nat.beq size 0) .bad
      (grown (get d t) fun cs => ifR (Nat.ble (Nat.add o (Nat.mul j size)) (lenV cs)) (K (.s d (Nat.add o (Nat.mul i size)) (Nat.sub j i) cap) a t) .bad)) .bad) .bad)
theorem room_of {b k n : Nat} {h : H} {cs : List Value} (hb : h.get b = some ⟨cs, .grow⟩) : room b k n h = some (decide (k ≤ cs.length), n, h) := by
  show roomF b k n h = _
  unfold roomF
  rw [hb]
theorem opSlc_s {size b o len cap : Nat} {l h : Value} {i j : Int} (hi : bound l = some i) (hj : bound h = some j) : opSlc size (.slice (some ⟨b, o, none⟩) len cap) l h =
    (if (len : Int) < j ∧ cap = U + size then
        (if 0 ≤ i ∧ i ≤ j ∧ size ≠ 0 then bnd (room b (o + j.toNat * size)) fun q => if q then ret (Value.slice (some ⟨b, o + i.toNat * size, none⟩) (j - i).toNat cap) else fail else fail)
      else opSlice size (.slice (some ⟨b, o, none⟩) len cap) (some l) (some h) none) := by
  unfold opSlc
  simp only [hi, hj]
theorem kSlc_ref {size : Nat} {x l h : V} {w wl wh : Value} (hx : VRel x w) (hl : VRel l wl) (hh : VRel h wh) {K : V → St} {K' : Value → M Value} (hK : KR K K') : Ref (kSlc size x l h K) (bnd (opSlc size w wl wh) K') := by
  intro a t n g hr v a' t' e
  have slow : ∀ {a' t'}, kSlice size x (some l) (some h) none K a t = .ok v a' t' → ∃ w' n' h', bnd (opSlice size w (some wl) (some wh) none) K' n g = some (w', n', h') ∧ VF v w' ∧ HF v a' t' n' h' :=
    fun e => kSlice_ref hx (.some hl) (.some hh) .none hK _ _ _ _ hr _ _ _ e
  replace e := onSl_ok e
  rcases e with ⟨rfl, e⟩ | ⟨d, o, len, cap, rfl, e⟩
  · have hw := hx.got (by simp)
    rw [hw]
    rw [hw] at slow
    exact slow e
  · have hw := hx.got (by simp)
    obtain ⟨kj, j, hj, huj, e⟩ := onNat_ok e
    have hbj : bound wh = some (j : Int) := by rw [hh.got huj, hj]; rfl
    rw [hw] at slow ⊢
    rcases ifR_ok e with ⟨b1, e⟩ | ⟨b1, e⟩
    · have b1 := Nat.le_of_ble_eq_true b1
      obtain ⟨w', n', h', e1, e2, e3⟩ := slow e
      refine ⟨w', n', h', ?_, e2, e3⟩
      have : opSlc size (cv (.s d o len cap)) wl wh = opSlice size (cv (.s d o len cap)) (some wl) (some wh) none := by
        cases hbl : bound wl with
        | none =>
          obtain ⟨y, m0, m1, q1, _⟩ := bnd_some e1
          obtain ⟨_, _, _, _, _, _, _, _, h3, _⟩ := opSlice_some q1
          simp [hbl] at h3
        | some i =>
          show opSlc size (.slice (some ⟨num d, o, none⟩) len cap) wl wh = _
          rw [opSlc_s hbl hbj, if_neg (by omega)]
          rfl
      rw [this]
      exact e1
    · have b1 : ¬ j ≤ len := fun q => by rw [Nat.ble_eq_true_of_le q] at b1; cases b1
      rcases ifR_ok e with ⟨b2, e⟩ | ⟨_, e⟩
      · have b2 : cap = U + size := Nat.eq_of_beq_eq_true b2
        obtain ⟨ki, i, hi, hui, e⟩ := onNat_ok e
        have hbi : bound wl = some (i : Int) := by rw [hl.got hui, hi]; rfl
        rcases ifR_ok e with ⟨b3, e⟩ | ⟨_, e⟩
        · have b3 := Nat.le_of_ble_eq_true b3
          rcases ifR_ok e with ⟨_, e⟩ | ⟨b4, e⟩
          · cases e
          · have b4 := Nat.ne_of_beq_eq_false b4
            obtain ⟨cs, hg, e⟩ := grown_ok e
            rcases ifR_ok e with ⟨b5, e⟩ | ⟨_, e⟩
            · have b5 : o + j * size ≤ lenV cs := Nat.le_of_ble_eq_true b5
              have hgd : g.get (num d) = some ⟨cvL cs, .grow⟩ := by rw [hr.blk, hg]; rfl
              obtain ⟨w', n', h', e1, e2, e3⟩ := hK _ _ (.of (.s d (o + i * size) (j - i) cap)) _ _ _ _ hr _ _ _ e
              refine ⟨w', n', h', ?_, e2, e3⟩
              show bnd (opSlc size (.slice (some ⟨num d, o, none⟩) len cap) wl wh) K' n g = _
              rw [opSlc_s hbi hbj, if_pos ⟨by omega, b2⟩, if_pos ⟨by omega, by omega, b4⟩, Int.toNat_natCast, Int.toNat_natCast]
              have hd : decide (o + j * size ≤ (cvL cs).length) = true := by rw [lenV_eq]; exact decide_eq_true b5
              have hs : ((j : Int) - (i : Int)).toNat = j - i := by omega
              have : bnd (room (num d) (o + j * size)) (fun q => if q then ret (Value.slice (some ⟨num d, o + i * size, none⟩) ((j : Int) - (i : Int)).toNat cap) else fail) n g = some (Value.slice (some ⟨num d, o + i * size, none⟩) (j - i) cap, n, g) := by
                rw [bnd_of (room_of hgd), hd, if_pos rfl, hs]; rfl
              rw [bnd_of this]
              exact e1
            · cases e
        · cases e
      · cases e

noncomputable def kCap (x : V) (K : V → St) : St := fun a t => onSl x (K (.i (.ofNat 0)) a t) fun _ _ _ c => ifR (Nat.blt c 18446744073709551616) (K (.i (.ofNat c)) a t) .bad
theorem kCap_ref {x : V} {w : Value} (hx : VRel x w) {K : V → St} {K' : Value → M Value} (hK : KR K K') : Ref (kCap x K) (bnd (opCap w) K') := by
  refine Ref.val hK fun a t v a' t' e => ?_
  replace e := onSl_ok e
  rcases e with ⟨rfl, e⟩ | ⟨d, o, l, c, rfl, e⟩
  · rw [hx.got (by simp)]
    exact ⟨_, _, rfl, .of (.i (.ofNat 0)), e⟩
  · rw [hx.got (by simp)]
    rcases ifR_ok e with ⟨b, e⟩ | ⟨_, e⟩
    · refine ⟨.i (.ofNat c), _, ?_, .of _, e⟩
      have b : c < U := blt_lt b
      show (if c < U then ret (Value.int .i64 c) else fail) = _
      rw [if_pos b]
      rfl
    · cases e

/-- Append, in place where the block has the room. -/
noncomputable def kApp (size bytes : Nat) (s x : V) (K : V → St) : St := fun a t =>
  onSl x (kAppend size bytes s x K a t) fun xd xo n xc => onSl s (kAppend size bytes s x K a t) fun d o l c =>
    ifR (Nat.beq c (Nat.add 18446744073709551616 size))
      (ifR (Nat.beq n 0) (kAppend size bytes s x K a t)
        (grown (get d t) fun cs => ifR (Nat.ble (Nat.add o (Nat.mul (Nat.add l n) size)) (lenV cs))
          (ifR (Nat.ble (Nat.add l n) 1099511627776) (ifR (Nat.ble (Nat.mul (Nat.add l n) bytes) 70368744177664)
            (cellsK size (.s xd xo n xc) t fun news => onesK news (overAtK news (Nat.add o (Nat.mul l size)) cs fun cs' => K (.s d o (Nat.add l n) c) a (put d (.grow cs') t))) .bad) .bad)
          (kAppend size bytes s x K a t)))
      (kAppend size bytes s x K a t)
theorem kApp_ref {size bytes : Nat} {s x : V} {w u : Value} (hs : VRel s w) (hx : VRel x u) {K : V → St} {K' : Value → M Value} (hK : KR K K') : Ref (kApp size bytes s x K) (bnd (opApp size bytes w u) K') := by
  intro a t n h hr v a' t' e
  have slow : kAppend size bytes s x K a t = .ok v a' t' → roomy size w u n h = some (false, n, h) → ∃ w' n' h', bnd (opApp size bytes w u) K' n h = some (w', n', h') ∧ VF v w' ∧ HF v a' t' n' h' := fun e hq => by
    obtain ⟨w', n', h', e1, e2, e3⟩ := kAppend_ref hs hx hK _ _ _ _ hr _ _ _ e
    refine ⟨w', n', h', ?_, e2, e3⟩
    obtain ⟨z, n1, h1, q1, q2⟩ := bnd_some e1
    have : opApp size bytes w u n h = some (z, n1, h1) := by
      show bnd (roomy size w u) _ n h = _
      rw [bnd_of hq]
      exact q1
    rw [bnd_of this]
    exact q2
  replace e := onSl_ok e
  rcases e with ⟨rfl, e⟩ | ⟨xd, xo, m, xc, rfl, e⟩
  · have hu := hx.got (by simp)
    refine slow e ?_
    rw [hu]
    replace e : kAppend size bytes s .ns K a t = .ok v a' t' := e
    unfold roomy
    split
    · rename_i h1; cases h1; rw [if_neg (by simp)]; rfl
    · rfl
  have hu := hx.got (by simp)
  replace e := onSl_ok e
  rcases e with ⟨rfl, e⟩ | ⟨d, o, l, c, rfl, e⟩
  · refine slow e ?_
    rw [hs.got (by simp)]
    rfl
  have hw := hs.got (by simp)
  have hroomy : roomy size w u = if c = U + size ∧ m ≠ 0 then room (num d) (o + (l + m) * size) else ret false := by rw [hw, hu]; rfl
  rcases ifR_ok e with ⟨b1, e⟩ | ⟨b1, e⟩
  · have b1 : c = U + size := Nat.eq_of_beq_eq_true b1
    rcases ifR_ok e with ⟨b2, e⟩ | ⟨b2, e⟩
    · have b2 := Nat.eq_of_beq_eq_true b2
      refine slow e ?_
      rw [hroomy, if_neg (by simp [b2])]
      rfl
    · have b2 := Nat.ne_of_beq_eq_false b2
      obtain ⟨cs, hg, e⟩ := grown_ok e
      have hgd : h.get (num d) = some ⟨cvL cs, .grow⟩ := by rw [hr.blk, hg]; rfl
      rcases ifR_ok e with ⟨b3, e⟩ | ⟨b3, e⟩
      · have b3 : o + (l + m) * size ≤ lenV cs := Nat.le_of_ble_eq_true b3
        rcases ifR_ok e with ⟨b4, e⟩ | ⟨_, e⟩
        · rcases ifR_ok e with ⟨b5, e⟩ | ⟨_, e⟩
          · have b4 : l + m ≤ 1099511627776 := Nat.le_of_ble_eq_true b4
            have b5 : (l + m) * bytes ≤ 70368744177664 := Nat.le_of_ble_eq_true b5
            obtain ⟨news, hn, e⟩ := cellsK_ok hr e
            obtain ⟨h3, e⟩ := onesK_ok e
            obtain ⟨cs', h4, h5, e⟩ := overAtK_ok e
            replace h4 : cvL cs' = over (cvL cs) (o + l * size) (cvL news) := h4
            replace h5 : o + l * size + (cvL news).length ≤ (cvL cs).length := h5
            obtain ⟨w', n', h', e1, e2, e3⟩ := hK _ _ (.of (.s d o (l + m) c)) _ _ _ _ (hr.put (B := .grow cs') (C := ⟨over (cvL cs) (o + l * size) (cvL news), .grow⟩) (by rw [hgd]; rfl) (by rw [← h4]; rfl)) _ _ _ e
            refine ⟨w', n', h', ?_, e2, e3⟩
            have : opApp size bytes w u n h = some (cv (.s d o (l + m) c), n, h.set (num d) ⟨over (cvL cs) (o + l * size) (cvL news), .grow⟩) := by
              show bnd (roomy size w u) _ n h = _
              rw [hroomy, if_pos ⟨b1, b2⟩, bnd_of (room_of hgd)]
              have hd : decide (o + (l + m) * size ≤ (cvL cs).length) = true := by rw [lenV_eq]; exact decide_eq_true b3
              rw [hd, if_pos rfl, hw, hu]
              show (if l + m ≤ 1099511627776 ∧ (l + m) * bytes ≤ 70368744177664 then bnd (cellsOf size (cv (.s xd xo m xc))) (fun news => bnd (wrN (num d) (o + l * size) news) fun _ => ret (Value.slice (some ⟨num d, o, none⟩) (l + m) c)) else fail) n h = _
              rw [if_pos ⟨b4, b5⟩, bnd_of hn, bnd_of (wrN_of hgd (.inr rfl) h3 h5)]
              rfl
            rw [bnd_of this]
            exact e1
          · cases e
        · cases e
      · have b3 : ¬ o + (l + m) * size ≤ lenV cs := fun q => by
          have b3 : Nat.ble (o + (l + m) * size) (lenV cs) = false := b3
          rw [Nat.ble_eq_true_of_le q] at b3; cases b3
        refine slow e ?_
        rw [hroomy, if_pos ⟨b1, b2⟩, room_of hgd, lenV_eq, decide_eq_false b3]
  · have b1 : c ≠ U + size := Nat.ne_of_beq_eq_false b1
    refine slow e ?_
    rw [hroomy, if_neg (fun q => b1 q.1)]
    rfl

noncomputable def kAppZ (size bytes : Nat) (z s x : V) (K : V → St) : St := fun a t =>
  onSl s (on_n x (fun n => ifR (Nat.beq n 0) .bad (ifR (Nat.ble n 1099511627776) (ifR (Nat.ble (Nat.mul n bytes) 70368744177664) (newG n size (repK z n) K a t) .bad) .bad)) .bad) fun _ _ _ _ => .bad
theorem kAppZ_ref {size bytes : Nat} {z s x : V} {w u : Value} (hs : VRel s w) (hx : VRel x u) {K : V → St} {K' : Value → M Value} (hK : KR K K') : Ref (kAppZ size bytes z s x K) (bnd (opAppZ size bytes (cvL z) w u) K') := by
  refine Ref.step hK fun a t n h hr v a' t' e => ?_
  replace e := onSl_ok e
  rcases e with ⟨rfl, e⟩ | ⟨_, _, _, _, rfl, e⟩
  case inr => cases e
  rcases on_n_ok e with ⟨k, rfl, e⟩ | e
  case inr => cases e
  rcases ifR_ok e with ⟨_, e⟩ | ⟨b0, e⟩
  · cases e
  rcases ifR_ok e with ⟨b1, e⟩ | ⟨_, e⟩
  case inr => cases e
  rcases ifR_ok e with ⟨b2, e⟩ | ⟨_, e⟩
  case inr => cases e
  have b0 := Nat.ne_of_beq_eq_false b0
  have b1 := Nat.le_of_ble_eq_true b1
  have b2 : k * bytes ≤ 70368744177664 := Nat.le_of_ble_eq_true b2
  obtain ⟨a1, t1, n1, h2, e1, e2, e3⟩ := newG_ok hr e
  rw [hs.got (by simp), hx.got (by simp)]
  refine ⟨_, _, a1, t1, n1, h2, ?_, .of (.s a 0 k (U + size)), e2, e3⟩
  show (if (0 : Int) < (k : Int) ∧ (k : Int) ≤ 1099511627776 ∧ (k : Int).toNat * bytes ≤ 70368744177664 then bnd (new (rep (k : Int).toNat (cvL z)) .grow) (fun b => ret (Value.slice (some ⟨b, 0, none⟩) (k : Int).toNat (U + size))) else fail) n h = _
  rw [if_pos ⟨by omega, by omega, b2⟩, Int.toNat_natCast, ← repK_eq]
  exact e1

/-! ## Closures, interfaces -/

theorem VL'.ones {xs : List V} {ws : List Value} (hx : VL' xs ws) (h1 : (xs.map cv).all one = true) : ws = xs.map cv := by
  induction hx with
  | nil => rfl
  | @cons x w xs ws hxw _ ih =>
    simp only [List.map_cons, List.all_cons, Bool.and_eq_true] at h1
    have : x ≠ .u := by rintro rfl; cases h1.1
    rw [List.map_cons, ih h1.2, hxw.got this]
noncomputable def kFunc (g : Nat) (l : V) (K : V → St) : St := fun a t => onesK l (K (.f g l) a t)
theorem kFunc_ref {g : Nat} {xs : List V} {ws : List Value} (hx : VL' xs ws) {K : V → St} {K' : Value → M Value} (hK : KR K K') : Ref (kFunc g (ofL xs) K) (bnd (opFunc (.func g) ws) K') := by
  refine Ref.val hK fun a t v a' t' e => ?_
  obtain ⟨h1, e⟩ := onesK_ok e
  rw [cvL_ofL] at h1
  have hw := VL'.ones hx h1
  refine ⟨.f g (ofL xs), _, ?_, .of _, e⟩
  unfold opFunc
  rw [hw, if_pos h1]
  show _ = ret (Value.func (.func g) #[] (cvL (ofL xs)).toArray)
  rw [cvL_ofL]
noncomputable def kIface (t : Nat) (x : V) (K : V → St) : St := fun a q => oneK x (K (.c t x) a q)
theorem kIface_ref {g : Nat} {x : V} {w : Value} (hx : VRel x w) {K : V → St} {K' : Value → M Value} (hK : KR K K') : Ref (kIface g x K) (bnd (opIface g w) K') := by
  refine Ref.val hK fun a t v a' t' e => ?_
  obtain ⟨h1, e⟩ := oneK_ok e
  have : x ≠ .u := by rintro rfl; cases h1
  rw [hx.got this]
  refine ⟨.c g x, _, ?_, .of _, e⟩
  unfold opIface
  rw [if_pos h1]
  rfl
noncomputable def kClear (z x : V) (K : V → St) : St := fun a t => onSl x (K .u a t) fun d o n _ => ifR (Nat.beq n 0) (K .u a t) (mine (get d t) fun f l => onesK (repK z n) (overAtK (repK z n) o l fun l' => K .u a (put d (f l') t)))
theorem kClear_ref {z x : V} {w : Value} (hx : VRel x w) {K : V → St} {K' : Value → M Value} (hK : KR K K') : Ref (kClear z x K) (bnd (opClear (cvL z) w) K') := by
  refine Ref.step hK fun a t n h hr v a' t' e => ?_
  replace e := onSl_ok e
  rcases e with ⟨rfl, e⟩ | ⟨d, o, m, c, rfl, e⟩
  · rw [hx.got (by simp)]
    exact ⟨.u, undef, a, t, n, h, rfl, .u _, hr, e⟩
  · rw [hx.got (by simp)]
    replace e := ifR_ok e
    rcases e with ⟨b, e⟩ | ⟨b, e⟩
    · have := Nat.eq_of_beq_eq_true b
      subst this
      exact ⟨.u, undef, a, t, n, h, rfl, .u _, hr, e⟩
    · have h0 := Nat.ne_of_beq_eq_false b
      obtain ⟨l, f, kd, hk, h1, h2, e⟩ := mine_ok e
      obtain ⟨h3, e⟩ := onesK_ok e
      obtain ⟨l', h4, h5, e⟩ := overAtK_ok e
      rw [repK_eq] at h3 h4 h5
      refine ⟨.u, undef, a, put d (f l') t, n, _, ?_, .u _, hr.put (by rw [hr.got h1]; rfl) (h2 l'), e⟩
      show (if m = 0 then ret undef else bnd (wrN (num d) o (rep m (cvL z))) fun _ => ret undef) n h = _
      rw [if_neg h0, bnd_of (wrN_of (hr.got h1) hk h3 h5), h4]
      rfl

/-! ## Maps -/

noncomputable def isNFK (x : V) (k : R) : R := @V.rec (fun _ => R) (.bad) (.bad) (fun _ => .bad) (fun _ => .bad) (fun _ _ => .bad) (fun _ => .bad) (fun _ _ => .bad) (.bad) (fun _ _ _ _ => .bad) (.bad) (.bad) (fun _ _ _ _ => .bad) (fun _ _ => .bad) (fun _ _ => .bad) (fun _ => .bad) (.bad) (fun _ _ _ => .bad) (k) (fun _ _ _ => .bad) (.bad) (fun _ => .bad) x
theorem isNFK_ok {x : V} {k : R} {v : V} {a : Ad} {t : T4} (h : isNFK x k = .ok v a t) : x = .nf ∧ k = .ok v a t := by cases x <;> first | exact ⟨rfl, h⟩ | cases h
noncomputable def mpK (d : Ad) (t : T4) (k : V → R) : R := deadB (get d t) fun l => on_cons l fun x r => isNFK x (k r)
theorem mpK_ok {d : Ad} {a : Ad} {t : T4} {n : Nat} {h : H} (hr : HR a t n h) {k : V → R} {v : V} {a' : Ad} {t' : T4} (e : mpK d t k = .ok v a' t') : ∃ r, h.get (num d) = some ⟨.nilFunc :: cvL r, .dead⟩ ∧ k r = .ok v a' t' := by
  obtain ⟨l, h1, e⟩ := deadB_ok e
  replace e := on_cons_ok e
  obtain ⟨x, r, rfl, e⟩ := e
  obtain ⟨rfl, e⟩ := isNFK_ok e
  refine ⟨r, ?_, e⟩
  rw [hr.blk, h1]
  rfl
noncomputable def entsK (n : Nat) (key r : V) (k : Nat → V → R) : R := on_cons r fun x r => on_w x fun m => ifR (Nat.beq m n) (on_cons r fun y es => on_w y fun c => ikeyK n key (k c es)) .bad
theorem entsK_ok {n : Nat} {key r : V} {k : Nat → V → R} {v : V} {a : Ad} {t : T4} (e : entsK n key r k = .ok v a t) : ∃ c es, r = .cons (.w n) (.cons (.w c) es) ∧ mapEnts n (cv key) (cvL r) = some (c, cvL es) ∧ key ≠ .u ∧ ikey n (cv key) = true ∧ k c es = .ok v a t := by
  obtain ⟨x, r1, hr1, e⟩ := on_cons_ok e
  obtain ⟨m, hm, e⟩ := on_w_ok e
  rcases ifR_ok e with ⟨b, e⟩ | ⟨_, e⟩
  · have := Nat.eq_of_beq_eq_true b
    obtain ⟨y, es, hes, e⟩ := on_cons_ok e
    obtain ⟨c, hc, e⟩ := on_w_ok e
    obtain ⟨h1, h2, e9⟩ := ikeyK_ok e
    subst hc hes hm hr1 this
    refine ⟨c, es, rfl, ?_, h2, h1, e9⟩
    show (if (m : Int) = (m : Int) ∧ ikey m (cv key) = true then some (c, cvL es) else none) = _
    rw [if_pos ⟨rfl, h1⟩]
  · cases e

/-- A map that is looked into, in either form. -/
noncomputable def on_wi (x : V) (k : Nat → R) (l : Int → R) : R := @V.rec (fun _ => R) (.bad) (.bad) (fun _ => .bad) (fun z => l z) (fun _ _ => .bad) (fun n => k n) (fun _ _ => .bad) (.bad) (fun _ _ _ _ => .bad) (.bad) (.bad) (fun _ _ _ _ => .bad) (fun _ _ => .bad) (fun _ _ => .bad) (fun _ => .bad) (.bad) (fun _ _ _ => .bad) (.bad) (fun _ _ _ => .bad) (.bad) (fun _ => .bad) x
theorem on_wi_ok {x : V} {k : Nat → R} {l : Int → R} {v : V} {a : Ad} {t : T4} (h : on_wi x k l = .ok v a t) : (∃ n, x = .w n ∧ k n = .ok v a t) ∨ ∃ z, x = .i z ∧ l z = .ok v a t := by cases x <;> first | exact .inl ⟨_, rfl, h⟩ | exact .inr ⟨_, rfl, h⟩ | cases h
noncomputable def lkeK (n : Nat) (key r : V) (k : V → R) : R := on_cons r fun x r1 => on_wi x (fun m => ifR (Nat.beq m n) (on_cons r1 fun y es => on_w y fun _ => ikeyK n key (k es)) .bad) (fun z => ifR (ieq z (Int.ofNat n)) (ikeyK n key (k r1)) .bad)
theorem lkeK_ok {n : Nat} {key r : V} {k : V → R} {v : V} {a : Ad} {t : T4} (e : lkeK n key r k = .ok v a t) : ∃ es, ((∃ c, mapEnts n (cv key) (cvL r) = some (c, cvL es)) ∨ (mapEnts n (cv key) (cvL r) = none ∧ lookEnts n (cv key) (cvL r) = some (cvL es))) ∧ key ≠ .u ∧ k es = .ok v a t := by
  obtain ⟨x, r1, hr1, e⟩ := on_cons_ok e
  rcases on_wi_ok e with ⟨m, hm, e⟩ | ⟨z, hz, e⟩
  · rcases ifR_ok e with ⟨b, e⟩ | ⟨_, e⟩
    · have := Nat.eq_of_beq_eq_true b
      obtain ⟨y, es, hes, e⟩ := on_cons_ok e
      obtain ⟨c, hc, e⟩ := on_w_ok e
      obtain ⟨h1, h2, e9⟩ := ikeyK_ok e
      subst hc hes hm hr1 this
      refine ⟨es, .inl ⟨c, ?_⟩, h2, e9⟩
      show (if (m : Int) = (m : Int) ∧ ikey m (cv key) = true then some (c, cvL es) else none) = _
      rw [if_pos ⟨rfl, h1⟩]
    · cases e
  · rcases ifR_ok e with ⟨b, e⟩ | ⟨_, e⟩
    · rw [ieq_eq] at b
      have := of_decide_eq_true b
      obtain ⟨h1, h2, e9⟩ := ikeyK_ok e
      subst hz hr1 this
      refine ⟨r1, .inr ⟨rfl, ?_⟩, h2, e9⟩
      show (if (n : Int) = (n : Int) ∧ ikey n (cv key) = true then some (cvL r1) else none) = _
      rw [if_pos ⟨rfl, h1⟩]
    · cases e

noncomputable def findK (key es : V) (e : R) (k : V → V → R) : Nat → R := @V.rec (fun _ => Nat → R) (fun ph => @Nat.rec (fun _ => R) e (fun _ _ => .bad) ph) (fun ph => @Nat.rec (fun _ => R) e (fun _ _ => .bad) ph) (fun _ => fun ph => @Nat.rec (fun _ => R) e (fun _ _ => .bad) ph) (fun _ => fun ph => @Nat.rec (fun _ => R) e (fun _ _ => .bad) ph) (fun _ _ => fun ph => @Nat.rec (fun _ => R) e (fun _ _ => .bad) ph) (fun _ => fun ph => @Nat.rec (fun _ => R) e (fun _ _ => .bad) ph) (fun _ _ => fun ph => @Nat.rec (fun _ => R) e (fun _ _ => .bad) ph) (fun ph => @Nat.rec (fun _ => R) e (fun _ _ => .bad) ph) (fun _ _ _ _ => fun ph => @Nat.rec (fun _ => R) e (fun _ _ => .bad) ph) (fun ph => @Nat.rec (fun _ => R) e (fun _ _ => .bad) ph) (fun ph => @Nat.rec (fun _ => R) e (fun _ _ => .bad) ph) (fun x r _ ih ph => @Nat.rec (fun _ => R) (keqK key x fun b => @Bool.rec (fun _ => R) (ih 2) (on_cons r fun v r2 => on_cons r2 fun s _ => k v s) b) (fun q _ => ih q) ph) (fun _ _ => fun ph => @Nat.rec (fun _ => R) e (fun _ _ => .bad) ph) (fun _ _ => fun ph => @Nat.rec (fun _ => R) e (fun _ _ => .bad) ph) (fun _ => fun ph => @Nat.rec (fun _ => R) e (fun _ _ => .bad) ph) (fun ph => @Nat.rec (fun _ => R) e (fun _ _ => .bad) ph) (fun _ _ _ => fun ph => @Nat.rec (fun _ => R) e (fun _ _ => .bad) ph) (fun ph => @Nat.rec (fun _ => R) e (fun _ _ => .bad) ph) (fun _ _ _ => fun ph => @Nat.rec (fun _ => R) e (fun _ _ => .bad) ph) (fun ph => @Nat.rec (fun _ => R) e (fun _ _ => .bad) ph) (fun _ => fun ph => @Nat.rec (fun _ => R) e (fun _ _ => .bad) ph) es
theorem findK_ok {key : V} {e : R} {k : V → V → R} {v : V} {a : Ad} {t : T4} : ∀ {es : V} {ph : Nat}, findK key es e k ph = .ok v a t →
    (entFind (cv key) ((cvL es).drop ph) = none ∧ e = .ok v a t) ∨ ∃ x s, entFind (cv key) ((cvL es).drop ph) = some (cv x, cv s) ∧ k x s = .ok v a t := by
  intro es
  induction es with
  | cons x r _ ih =>
    intro ph h
    cases ph with
    | zero =>
      have h := keqK_ok (show keqK key x (fun b => @Bool.rec (fun _ => R) (findK key r e k 2) (on_cons r fun v r2 => on_cons r2 fun s _ => k v s) b) = _ from h)
      cases hb : keq (cv key) (cv x) with
      | true =>
        rw [hb] at h
        obtain ⟨y, r2, hr2, h⟩ := on_cons_ok (show on_cons r (fun v r2 => on_cons r2 fun s _ => k v s) = _ from h)
        obtain ⟨s, r3, hr3, h9⟩ := on_cons_ok h
        subst hr3 hr2
        right
        refine ⟨y, s, ?_, h9⟩
        simp [cvL, entFind, hb]
      | false =>
        rw [hb] at h
        have h : findK key r e k 2 = .ok v a t := h
        have key3 : entFind (cv key) (cv x :: cvL r) = entFind (cv key) ((cvL r).drop 2) := by
          match hq : cvL r with
          | [] => simp [entFind]
          | [y] => simp [entFind]
          | y :: s :: q => simp [entFind, hb]
        rcases ih h with ⟨h1, h2⟩ | ⟨y, s, h1, h2⟩
        · left; exact ⟨by simp only [cvL, List.drop_zero]; rw [key3, h1], h2⟩
        · right; exact ⟨y, s, by simp only [cvL, List.drop_zero]; rw [key3, h1], h2⟩
    | succ q =>
      have h : findK key r e k q = .ok v a t := h
      rcases ih h with ⟨h1, h2⟩ | ⟨y, s, h1, h2⟩
      · left; exact ⟨by simpa [cvL] using h1, h2⟩
      · right; exact ⟨y, s, by simpa [cvL] using h1, h2⟩
  | _ =>
    intro ph h
    cases ph with
    | zero => left; exact ⟨by simp [cvL, entFind], h⟩
    | succ q => cases h

noncomputable def putEK (key v : V) (c : Nat) (es : V) : Nat → (V → R) → R := @V.rec (fun _ => Nat → (V → R) → R) (fun ph k => @Nat.rec (fun _ => R) (k (.cons key (.cons v (.cons (.i (.ofNat c)) .nil)))) (fun _ _ => .bad) ph) (fun ph k => @Nat.rec (fun _ => R) (k (.cons key (.cons v (.cons (.i (.ofNat c)) .nil)))) (fun _ _ => .bad) ph) (fun _ => fun ph k => @Nat.rec (fun _ => R) (k (.cons key (.cons v (.cons (.i (.ofNat c)) .nil)))) (fun _ _ => .bad) ph) (fun _ => fun ph k => @Nat.rec (fun _ => R) (k (.cons key (.cons v (.cons (.i (.ofNat c)) .nil)))) (fun _ _ => .bad) ph) (fun _ _ => fun ph k => @Nat.rec (fun _ => R) (k (.cons key (.cons v (.cons (.i (.ofNat c)) .nil)))) (fun _ _ => .bad) ph) (fun _ => fun ph k => @Nat.rec (fun _ => R) (k (.cons key (.cons v (.cons (.i (.ofNat c)) .nil)))) (fun _ _ => .bad) ph) (fun _ _ => fun ph k => @Nat.rec (fun _ => R) (k (.cons key (.cons v (.cons (.i (.ofNat c)) .nil)))) (fun _ _ => .bad) ph) (fun ph k => @Nat.rec (fun _ => R) (k (.cons key (.cons v (.cons (.i (.ofNat c)) .nil)))) (fun _ _ => .bad) ph) (fun _ _ _ _ => fun ph k => @Nat.rec (fun _ => R) (k (.cons key (.cons v (.cons (.i (.ofNat c)) .nil)))) (fun _ _ => .bad) ph) (fun ph k => @Nat.rec (fun _ => R) (k (.cons key (.cons v (.cons (.i (.ofNat c)) .nil)))) (fun _ _ => .bad) ph) (fun ph k => @Nat.rec (fun _ => R) (k (.cons key (.cons v (.cons (.i (.ofNat c)) .nil)))) (fun _ _ => .bad) ph) (fun x r _ ih ph k => @Nat.rec (fun _ => R) (keqK key x fun b => @Bool.rec (fun _ => R) (ih 2 fun r' => k (.cons x r')) (on_cons r fun _ r2 => on_cons r2 fun s r3 => k (.cons x (.cons v (.cons s r3)))) b) (fun q _ => ih q fun r' => k (.cons x r')) ph) (fun _ _ => fun ph k => @Nat.rec (fun _ => R) (k (.cons key (.cons v (.cons (.i (.ofNat c)) .nil)))) (fun _ _ => .bad) ph) (fun _ _ => fun ph k => @Nat.rec (fun _ => R) (k (.cons key (.cons v (.cons (.i (.ofNat c)) .nil)))) (fun _ _ => .bad) ph) (fun _ => fun ph k => @Nat.rec (fun _ => R) (k (.cons key (.cons v (.cons (.i (.ofNat c)) .nil)))) (fun _ _ => .bad) ph) (fun ph k => @Nat.rec (fun _ => R) (k (.cons key (.cons v (.cons (.i (.ofNat c)) .nil)))) (fun _ _ => .bad) ph) (fun _ _ _ => fun ph k => @Nat.rec (fun _ => R) (k (.cons key (.cons v (.cons (.i (.ofNat c)) .nil)))) (fun _ _ => .bad) ph) (fun ph k => @Nat.rec (fun _ => R) (k (.cons key (.cons v (.cons (.i (.ofNat c)) .nil)))) (fun _ _ => .bad) ph) (fun _ _ _ => fun ph k => @Nat.rec (fun _ => R) (k (.cons key (.cons v (.cons (.i (.ofNat c)) .nil)))) (fun _ _ => .bad) ph) (fun ph k => @Nat.rec (fun _ => R) (k (.cons key (.cons v (.cons (.i (.ofNat c)) .nil)))) (fun _ _ => .bad) ph) (fun _ => fun ph k => @Nat.rec (fun _ => R) (k (.cons key (.cons v (.cons (.i (.ofNat c)) .nil)))) (fun _ _ => .bad) ph) es
theorem putEK_ok {key y : V} {c : Nat} {v : V} {a : Ad} {t : T4} : ∀ {es : V} {ph : Nat} {k : V → R}, putEK key y c es ph k = .ok v a t →
    ∃ l, cvL l = (cvL es).take ph ++ entPut (cv key) (cv y) c ((cvL es).drop ph) ∧ ph ≤ (cvL es).length ∧ k l = .ok v a t := by
  intro es
  induction es with
  | cons x r _ ih =>
    intro ph k h
    cases ph with
    | zero =>
      have h := keqK_ok (show keqK key x (fun b => @Bool.rec (fun _ => R) (putEK key y c r 2 fun r' => k (.cons x r')) (on_cons r fun _ r2 => on_cons r2 fun s r3 => k (.cons x (.cons y (.cons s r3)))) b) = _ from h)
      cases hb : keq (cv key) (cv x) with
      | true =>
        rw [hb] at h
        obtain ⟨u0, r2, hr2, h⟩ := on_cons_ok (show on_cons r (fun _ r2 => on_cons r2 fun s r3 => k (.cons x (.cons y (.cons s r3)))) = _ from h)
        obtain ⟨s, r3, hr3, h9⟩ := on_cons_ok h
        subst hr3 hr2
        exact ⟨_, by simp [cvL, entPut, hb], by simp, h9⟩
      | false =>
        rw [hb] at h
        obtain ⟨l, h1, h2, h3⟩ := ih (show putEK key y c r 2 (fun r' => k (.cons x r')) = _ from h)
        refine ⟨_, ?_, by simp, h3⟩
        match hq : cvL r with
        | [] => rw [hq] at h2; simp at h2
        | [u0] => rw [hq] at h2; simp at h2
        | u0 :: s :: q => rw [hq] at h1; simp [cvL, h1, hq, entPut, hb]
    | succ q =>
      obtain ⟨l, h1, h2, h3⟩ := ih (show putEK key y c r q (fun r' => k (.cons x r')) = _ from h)
      exact ⟨_, by simp [cvL, h1], by simp [cvL]; omega, h3⟩
  | _ =>
    intro ph k h
    cases ph with
    | zero => exact ⟨_, by simp [cvL, entPut]; rfl, by simp, h⟩
    | succ q => cases h
noncomputable def delEK (key es : V) : Nat → (V → R) → R := @V.rec (fun _ => Nat → (V → R) → R) (fun ph k => @Nat.rec (fun _ => R) (k .nil) (fun _ _ => .bad) ph) (fun ph k => @Nat.rec (fun _ => R) (k .nil) (fun _ _ => .bad) ph) (fun _ => fun ph k => @Nat.rec (fun _ => R) (k .nil) (fun _ _ => .bad) ph) (fun _ => fun ph k => @Nat.rec (fun _ => R) (k .nil) (fun _ _ => .bad) ph) (fun _ _ => fun ph k => @Nat.rec (fun _ => R) (k .nil) (fun _ _ => .bad) ph) (fun _ => fun ph k => @Nat.rec (fun _ => R) (k .nil) (fun _ _ => .bad) ph) (fun _ _ => fun ph k => @Nat.rec (fun _ => R) (k .nil) (fun _ _ => .bad) ph) (fun ph k => @Nat.rec (fun _ => R) (k .nil) (fun _ _ => .bad) ph) (fun _ _ _ _ => fun ph k => @Nat.rec (fun _ => R) (k .nil) (fun _ _ => .bad) ph) (fun ph k => @Nat.rec (fun _ => R) (k .nil) (fun _ _ => .bad) ph) (fun ph k => @Nat.rec (fun _ => R) (k .nil) (fun _ _ => .bad) ph) (fun x r _ ih ph k => @Nat.rec (fun _ => R) (keqK key x fun b => @Bool.rec (fun _ => R) (ih 2 fun r' => k (.cons x r')) (on_cons r fun _ r2 => on_cons r2 fun _ r3 => k r3) b) (fun q _ => ih q fun r' => k (.cons x r')) ph) (fun _ _ => fun ph k => @Nat.rec (fun _ => R) (k .nil) (fun _ _ => .bad) ph) (fun _ _ => fun ph k => @Nat.rec (fun _ => R) (k .nil) (fun _ _ => .bad) ph) (fun _ => fun ph k => @Nat.rec (fun _ => R) (k .nil) (fun _ _ => .bad) ph) (fun ph k => @Nat.rec (fun _ => R) (k .nil) (fun _ _ => .bad) ph) (fun _ _ _ => fun ph k => @Nat.rec (fun _ => R) (k .nil) (fun _ _ => .bad) ph) (fun ph k => @Nat.rec (fun _ => R) (k .nil) (fun _ _ => .bad) ph) (fun _ _ _ => fun ph k => @Nat.rec (fun _ => R) (k .nil) (fun _ _ => .bad) ph) (fun ph k => @Nat.rec (fun _ => R) (k .nil) (fun _ _ => .bad) ph) (fun _ => fun ph k => @Nat.rec (fun _ => R) (k .nil) (fun _ _ => .bad) ph) es
theorem delEK_ok {key : V} {v : V} {a : Ad} {t : T4} : ∀ {es : V} {ph : Nat} {k : V → R}, delEK key es ph k = .ok v a t →
    ∃ l, cvL l = (cvL es).take ph ++ entDel (cv key) ((cvL es).drop ph) ∧ ph ≤ (cvL es).length ∧ k l = .ok v a t := by
  intro es
  induction es with
  | cons x r _ ih =>
    intro ph k h
    cases ph with
    | zero =>
      have h := keqK_ok (show keqK key x (fun b => @Bool.rec (fun _ => R) (delEK key r 2 fun r' => k (.cons x r')) (on_cons r fun _ r2 => on_cons r2 fun _ r3 => k r3) b) = _ from h)
      cases hb : keq (cv key) (cv x) with
      | true =>
        rw [hb] at h
        obtain ⟨u0, r2, hr2, h⟩ := on_cons_ok (show on_cons r (fun _ r2 => on_cons r2 fun _ r3 => k r3) = _ from h)
        obtain ⟨s, r3, hr3, h9⟩ := on_cons_ok h
        subst hr3 hr2
        exact ⟨_, by simp [cvL, entDel, hb], by simp, h9⟩
      | false =>
        rw [hb] at h
        obtain ⟨l, h1, h2, h3⟩ := ih (show delEK key r 2 (fun r' => k (.cons x r')) = _ from h)
        refine ⟨_, ?_, by simp, h3⟩
        match hq : cvL r with
        | [] => rw [hq] at h2; simp at h2
        | [u0] => rw [hq] at h2; simp at h2
        | u0 :: s :: q => rw [hq] at h1; simp [cvL, h1, hq, entDel, hb]
    | succ q =>
      obtain ⟨l, h1, h2, h3⟩ := ih (show delEK key r q (fun r' => k (.cons x r')) = _ from h)
      exact ⟨_, by simp [cvL, h1], by simp [cvL]; omega, h3⟩
  | _ =>
    intro ph k h
    cases ph with
    | zero => exact ⟨.nil, by simp [cvL, entDel], by simp, h⟩
    | succ q => cases h
noncomputable def setSK (st : Int) (v : V) (es : V) : Nat → (V → R) → R := @V.rec (fun _ => Nat → (V → R) → R) (fun _ _ => .bad) (fun _ _ => .bad) (fun _ => fun _ _ => .bad) (fun _ => fun _ _ => .bad) (fun _ _ => fun _ _ => .bad) (fun _ => fun _ _ => .bad) (fun _ _ => fun _ _ => .bad) (fun _ _ => .bad) (fun _ _ _ _ => fun _ _ => .bad) (fun _ _ => .bad) (fun _ _ => .bad) (fun x r _ ih ph k => @Nat.rec (fun _ => R) (on_cons r fun u0 r2 => on_cons r2 fun s r3 => on_i s fun z => @Bool.rec (fun _ => R) (ih 2 fun r' => k (.cons x r')) (k (.cons x (.cons v (.cons s r3)))) (ieq z st)) (fun q _ => ih q fun r' => k (.cons x r')) ph) (fun _ _ => fun _ _ => .bad) (fun _ _ => fun _ _ => .bad) (fun _ => fun _ _ => .bad) (fun _ _ => .bad) (fun _ _ _ => fun _ _ => .bad) (fun _ _ => .bad) (fun _ _ _ => fun _ _ => .bad) (fun _ _ => .bad) (fun _ => fun _ _ => .bad) es
theorem setSK_ok {st : Int} {y : V} {v : V} {a : Ad} {t : T4} : ∀ {es : V} {ph : Nat} {k : V → R}, setSK st y es ph k = .ok v a t →
    ∃ l q, entSet st (cv y) ((cvL es).drop ph) = some q ∧ cvL l = (cvL es).take ph ++ q ∧ ph ≤ (cvL es).length ∧ k l = .ok v a t := by
  intro es
  induction es with
  | cons x r _ ih =>
    intro ph k h
    cases ph with
    | zero =>
      obtain ⟨u0, r2, hr2, h⟩ := on_cons_ok (show on_cons r (fun u0 r2 => on_cons r2 fun s r3 => on_i s fun z => @Bool.rec (fun _ => R) (setSK st y r 2 fun r' => k (.cons x r')) (k (.cons x (.cons y (.cons s r3)))) (ieq z st)) = _ from h)
      obtain ⟨s, r3, hr3, h⟩ := on_cons_ok h
      obtain ⟨z, hz, h⟩ := on_i_ok h
      cases hb : ieq z st with
      | true =>
        rw [hb] at h
        have h9 := h
        subst hz hr3 hr2
        have : decide (z = st) = true := by rw [← ieq_eq]; exact hb
        exact ⟨.cons x (.cons y (.cons (.i z) r3)), cv x :: cv y :: .int .i64 z :: cvL r3, by simp only [List.drop_zero, cvL, entSet, cv, stampIs, this, if_true], by simp [cvL, cv], by simp, h9⟩
      | false =>
        rw [hb] at h
        have h9 := h
        subst hz hr3 hr2
        have hd : decide (z = st) = false := by rw [← ieq_eq]; exact hb
        obtain ⟨l, q, h0, h1, h2, h3⟩ := ih (show setSK st y (.cons u0 (.cons (.i z) r3)) 2 (fun r' => k (.cons x r')) = _ from h9)
        simp only [cvL, List.drop_succ_cons, List.drop_zero] at h0
        refine ⟨.cons x l, cv x :: cv u0 :: .int .i64 z :: q, ?_, ?_, by simp, h3⟩
        · simp only [List.drop_zero, cvL, entSet, cv, stampIs, hd, if_false, Bool.false_eq_true, h0, Option.map_some]
        · simp only [cvL, h1, List.take_zero, List.nil_append, List.take_succ_cons, cv, List.cons_append]
    | succ q =>
      obtain ⟨l, q', h0, h1, h2, h3⟩ := ih (show setSK st y r q (fun r' => k (.cons x r')) = _ from h)
      exact ⟨_, q', by simpa [cvL] using h0, by simp [cvL, h1], by simp [cvL]; omega, h3⟩
  | _ => intro ph k h; cases h

/-- A map: nil, or not. -/
noncomputable def onM (m : V) (e : R) (k : Ad → R) : R := @V.rec (fun _ => R) (.bad) (.bad) (fun _ => .bad) (fun _ => .bad) (fun _ _ => .bad) (fun _ => .bad) (fun _ _ => .bad) (.bad) (fun _ _ _ _ => .bad) (.bad) (.bad) (fun _ _ _ _ => .bad) (fun _ _ => .bad) (fun _ _ => .bad) (fun a => k a) (e) (fun _ _ _ => .bad) (.bad) (fun _ _ _ => .bad) (.bad) (fun _ => .bad) m
theorem onM_ok {x : V} {e : R} {k : Ad → R} {v : V} {a : Ad} {t : T4} (h : onM x e k = .ok v a t) : (x = .nm ∧ e = .ok v a t) ∨ ∃ d, x = .m d ∧ k d = .ok v a t := by
  cases x <;> first | exact .inl ⟨rfl, h⟩ | exact .inr ⟨_, rfl, h⟩ | cases h

noncomputable def kMakeMap (n : Nat) (K : V → St) : St := fun a t => inc (K (.m a)) a (put a (.dead (.cons .nf (.cons (.w n) (.cons (.w 0) .nil)))) t)
theorem kMakeMap_ref {m : Nat} {K : V → St} {K' : Value → M Value} (hK : KR K K') : Ref (kMakeMap m K) (bnd (opMakeMap m) K') := by
  refine Ref.step hK fun a t n h hr v a' t' e => ?_
  obtain ⟨b, hb, e⟩ := inc_ok e
  refine ⟨.m a, _, b, _, n + 1, _, ?_, .of _, hr.new hb (B := .dead (.cons .nf (.cons (.w m) (.cons (.w 0) .nil)))) rfl, e⟩
  show bnd (new [.nilFunc, .int .u64 m, .int .u64 0] .dead) (fun b => ret (Value.map (some b))) n h = _
  rw [bnd_of (new_of (hr.fresh n (Nat.le_refl _)) rfl), hr.n_eq]
  rfl
noncomputable def tup2 (x y : V) : V := .t (.cons x (.cons y .nil))
noncomputable def okV (ok : Bool) (x : V) (b : Bool) : V := @Bool.rec (fun _ => V) x (tup2 x (.b b)) ok
noncomputable def kLookup (n : Nat) (z : V) (ok : Bool) (m key : V) (K : V → St) : St := fun a t =>
  onM m (ikeyK n key (K (okV ok z false) a t)) fun d => mpK d t fun r => lkeK n key r fun es => findK key es (K (okV ok z false) a t) (fun x _ => K (okV ok x true) a t) 0
theorem okV_eq (ok : Bool) (x : V) (b : Bool) : cv (okV ok x b) = if ok then Value.tuple #[cv x, .bool b] else cv x := by cases ok <;> rfl
theorem kLookup_ref {n : Nat} {z : V} {ok : Bool} {m key : V} {w u : Value} (hm : VRel m w) (hk : VRel key u) {K : V → St} {K' : Value → M Value} (hK : KR K K') : Ref (kLookup n z ok m key K) (bnd (opLookup n (cv z) ok w u) K') := by
  refine Ref.step hK fun a t n1 h hr v a' t' e => ?_
  replace e := onM_ok e
  rcases e with ⟨rfl, e⟩ | ⟨d, rfl, e⟩
  · obtain ⟨h1, h2, e⟩ := ikeyK_ok e
    rw [hm.got (by simp), hk.got h2]
    refine ⟨_, _, a, t, n1, h, ?_, .of (okV ok z false), hr, e⟩
    show (if ikey n (cv key) = true then ret (if ok then Value.tuple #[cv z, .bool false] else cv z) else fail) n1 h = _
    rw [if_pos h1, okV_eq]
    rfl
  · obtain ⟨r, h1, e⟩ := mpK_ok hr e
    obtain ⟨es, h2, h3, e⟩ := lkeK_ok e
    rw [hm.got (by simp), hk.got h3]
    have hrun : ∀ q, (match entFind (cv key) (cvL es) with
      | some (v, _) => ret (if ok then Value.tuple #[v, .bool true] else v)
      | none => ret (if ok then Value.tuple #[cv z, .bool false] else cv z)) n1 h = q → opLookup n (cv z) ok (cv (.m d)) (cv key) n1 h = q := by
      intro q hq
      show bnd (mpGet (num d)) _ n1 h = _
      rw [bnd_of (mpGet_of h1)]
      rcases h2 with ⟨c, h2⟩ | ⟨h2, h2'⟩
      · rw [h2]; exact hq
      · rw [h2, h2']; exact hq
    rcases findK_ok e with ⟨h4, e⟩ | ⟨x, s, h4, e⟩
    · refine ⟨_, _, a, t, n1, h, hrun _ ?_, .of (okV ok z false), hr, e⟩
      rw [show entFind (cv key) (cvL es) = none from h4, okV_eq]
      rfl
    · refine ⟨_, _, a, t, n1, h, hrun _ ?_, .of (okV ok x true), hr, e⟩
      rw [show entFind (cv key) (cvL es) = some (cv x, cv s) from h4, okV_eq]
      rfl
/-- A map's block, written. -/
noncomputable def mpB (n c : Nat) (es : V) : Bk := .dead (.cons .nf (.cons (.w n) (.cons (.w c) es)))
noncomputable def kInsert (n : Nat) (m key x : V) (K : V → St) : St := fun a t =>
  on_m m fun d => mpK d t fun r => entsK n key r fun c es => oneK x (findK key es
    (putEK key x c es 0 fun es' => K .u a (put d (mpB n (Nat.succ c) es') t))
    (fun _ _ => putEK key x c es 0 fun es' => K .u a (put d (mpB n c es') t)) 0)
theorem kInsert_ref {n : Nat} {m key x : V} {w u y : Value} (hm : VRel m w) (hk : VRel key u) (hx : VRel x y) {K : V → St} {K' : Value → M Value} (hK : KR K K') : Ref (kInsert n m key x K) (bnd (opInsert n w u y) K') := by
  refine Ref.step hK fun a t n1 h hr v a' t' e => ?_
  replace e := on_m_ok e
  obtain ⟨d, rfl, e⟩ := e
  obtain ⟨r, h1, e⟩ := mpK_ok hr e
  obtain ⟨c, es, hr0, h2, h3, _, e⟩ := entsK_ok e
  obtain ⟨h4, e⟩ := oneK_ok e
  have hxu : x ≠ .u := by rintro rfl; cases h4
  rw [hm.got (by simp), hk.got h3, hx.got hxu]
  have hset : ∀ vs, mpSet (num d) vs n1 h = some ((), n1, h.set (num d) ⟨.nilFunc :: vs, .dead⟩) := fun vs => mpSet_of h1
  have hsome : (h.get (num d)).isSome = true := by rw [h1]; rfl
  have hrun : ∀ q, (match entFind (cv key) (cvL es) with
      | some _ => bnd (mpSet (num d) (.int .u64 n :: .int .u64 c :: entPut (cv key) (cv x) c (cvL es))) fun _ => ret undef
      | none => bnd (mpSet (num d) (.int .u64 n :: .int .u64 (c + 1 : Nat) :: entPut (cv key) (cv x) c (cvL es))) fun _ => ret undef) n1 h = q → opInsert n (cv (.m d)) (cv key) (cv x) n1 h = q := by
    intro q hq
    show bnd (mpGet (num d)) _ n1 h = _
    rw [bnd_of (mpGet_of h1), h2]
    dsimp only
    rw [if_pos h4]
    exact hq
  rcases findK_ok e with ⟨h5, e⟩ | ⟨x', s, h5, e⟩
  · obtain ⟨l, h6, _, e⟩ := putEK_ok e
    refine ⟨.u, undef, a, put d (mpB n (c + 1) l) t, n1, _, hrun _ ?_, .u _, hr.put (C := ⟨.nilFunc :: .int .u64 n :: .int .u64 (c + 1 : Nat) :: entPut (cv key) (cv x) c (cvL es), .dead⟩) hsome (by show some _ = _; simp [cvL, cv, h6]), e⟩
    rw [show entFind (cv key) (cvL es) = none from h5]
    dsimp only
    rw [bnd_of (hset _)]
    rfl
  · obtain ⟨l, h6, _, e⟩ := putEK_ok e
    refine ⟨.u, undef, a, put d (mpB n c l) t, n1, _, hrun _ ?_, .u _, hr.put (C := ⟨.nilFunc :: .int .u64 n :: .int .u64 c :: entPut (cv key) (cv x) c (cvL es), .dead⟩) hsome (by show some _ = _; simp [cvL, cv, h6]), e⟩
    rw [show entFind (cv key) (cvL es) = some (cv x', cv s) from h5]
    dsimp only
    rw [bnd_of (hset _)]
    rfl
noncomputable def kDelete (n : Nat) (m key : V) (K : V → St) : St := fun a t =>
  onM m (ikeyK n key (K .u a t)) fun d => mpK d t fun r => entsK n key r fun c es => delEK key es 0 fun es' => K .u a (put d (mpB n c es') t)
theorem kDelete_ref {n : Nat} {m key : V} {w u : Value} (hm : VRel m w) (hk : VRel key u) {K : V → St} {K' : Value → M Value} (hK : KR K K') : Ref (kDelete n m key K) (bnd (opDelete n w u) K') := by
  refine Ref.step hK fun a t n1 h hr v a' t' e => ?_
  replace e := onM_ok e
  rcases e with ⟨rfl, e⟩ | ⟨d, rfl, e⟩
  · obtain ⟨h1, h2, e⟩ := ikeyK_ok e
    rw [hm.got (by simp), hk.got h2]
    refine ⟨.u, undef, a, t, n1, h, ?_, .u _, hr, e⟩
    show (if ikey n (cv key) = true then ret undef else fail) n1 h = _
    rw [if_pos h1]
    rfl
  · obtain ⟨r, h1, e⟩ := mpK_ok hr e
    obtain ⟨c, es, _, h2, h3, _, e⟩ := entsK_ok e
    rw [hm.got (by simp), hk.got h3]
    obtain ⟨l, h6, _, e⟩ := delEK_ok e
    refine ⟨.u, undef, a, put d (mpB n c l) t, n1, _, ?_, .u _, hr.put (C := ⟨.nilFunc :: .int .u64 n :: .int .u64 c :: entDel (cv key) (cvL es), .dead⟩) (by rw [h1]; rfl) (by show some _ = _; simp [cvL, cv, h6]), e⟩
    show bnd (mpGet (num d)) _ n1 h = _
    rw [bnd_of (mpGet_of h1), h2]
    dsimp only
    rw [bnd_of (mpSet_of h1)]
    rfl
noncomputable def kMapEntry (n : Nat) (z m key : V) (K : V → St) : St := fun a t =>
  on_m m fun d => mpK d t fun r => entsK n key r fun c es => findK key es
    (putEK key z c es 0 fun es' => K (tup2 z (.i (.ofNat c))) a (put d (mpB n (Nat.succ c) es') t))
    (fun x s => K (tup2 x s) a t) 0
theorem kMapEntry_ref {n : Nat} {z m key : V} {w u : Value} (hm : VRel m w) (hk : VRel key u) {K : V → St} {K' : Value → M Value} (hK : KR K K') : Ref (kMapEntry n z m key K) (bnd (opMapEntry n (cv z) w u) K') := by
  refine Ref.step hK fun a t n1 h hr v a' t' e => ?_
  replace e := on_m_ok e
  obtain ⟨d, rfl, e⟩ := e
  obtain ⟨r, h1, e⟩ := mpK_ok hr e
  obtain ⟨c, es, hr0, h2, h3, _, e⟩ := entsK_ok e
  rw [hm.got (by simp), hk.got h3]
  have hrun : ∀ q, (match entFind (cv key) (cvL es) with
      | some (v, t) => ret (Value.tuple #[v, t])
      | none => bnd (mpSet (num d) (.int .u64 n :: .int .u64 (c + 1 : Nat) :: entPut (cv key) (cv z) c (cvL es))) fun _ => ret (.tuple #[cv z, .int .i64 c])) n1 h = q → opMapEntry n (cv z) (cv (.m d)) (cv key) n1 h = q := by
    intro q hq
    show bnd (mpGet (num d)) _ n1 h = _
    rw [bnd_of (mpGet_of h1), h2]
    exact hq
  rcases findK_ok e with ⟨h5, e⟩ | ⟨x', s, h5, e⟩
  · obtain ⟨l, h6, _, e⟩ := putEK_ok e
    refine ⟨_, _, a, put d (mpB n (c + 1) l) t, n1, _, hrun _ ?_, .of (tup2 z (.i (.ofNat c))), hr.put (C := ⟨.nilFunc :: .int .u64 n :: .int .u64 (c + 1 : Nat) :: entPut (cv key) (cv z) c (cvL es), .dead⟩) (by rw [h1]; rfl) (by show some _ = _; simp [cvL, cv, h6]), e⟩
    rw [show entFind (cv key) (cvL es) = none from h5]
    dsimp only
    rw [bnd_of (mpSet_of h1)]
    rfl
  · refine ⟨_, _, a, t, n1, h, hrun _ ?_, .of (tup2 x' s), hr, e⟩
    rw [show entFind (cv key) (cvL es) = some (cv x', cv s) from h5]
    rfl
noncomputable def kEntryStore (m stamp v : V) (K : V → St) : St := fun a t =>
  on_m m fun d => on_i stamp fun st => mpK d t fun r => on_cons r fun x r => on_w x fun n => on_cons r fun c es => oneK v (setSK st v es 0 fun es' => K .u a (put d (.dead (.cons .nf (.cons (.w n) (.cons c es')))) t))
theorem kEntryStore_ref {m stamp x : V} {w u y : Value} (hm : VRel m w) (hs : VRel stamp u) (hx : VRel x y) {K : V → St} {K' : Value → M Value} (hK : KR K K') : Ref (kEntryStore m stamp x K) (bnd (opEntryStore w u y) K') := by
  refine Ref.step hK fun a t n1 h hr v a' t' e => ?_
  replace e := on_m_ok e
  obtain ⟨d, rfl, e⟩ := e
  replace e := on_i_ok e
  obtain ⟨st, rfl, e⟩ := e
  obtain ⟨r, h1, e⟩ := mpK_ok hr e
  obtain ⟨q, r1, hq, e⟩ := on_cons_ok e
  obtain ⟨n, hn, e⟩ := on_w_ok e
  obtain ⟨c, es, hc, e⟩ := on_cons_ok e
  subst hc hn hq
  obtain ⟨h4, e⟩ := oneK_ok e
  have hxu : x ≠ .u := by rintro rfl; cases h4
  obtain ⟨l, q, h5, h6, _, e⟩ := setSK_ok e
  rw [hm.got (by simp), hs.got (by simp), hx.got hxu]
  refine ⟨.u, undef, a, put d (.dead (.cons .nf (.cons (.w n) (.cons c l)))) t, n1, _, ?_, .u _, hr.put (C := ⟨.nilFunc :: .int .u64 n :: cv c :: q, .dead⟩) (by rw [h1]; rfl) (by show some _ = _; simp [cvL, cv, h6]), e⟩
  show bnd (mpGet (num d)) _ n1 h = _
  rw [bnd_of (mpGet_of h1)]
  show (match entSet st (cv x) (cvL es) with
      | some es' => if one (cv x) = true then bnd (mpSet (num d) (.int .u64 n :: cv c :: es')) fun _ => ret undef else fail
      | none => fail) n1 h = _
  rw [show entSet st (cv x) (cvL es) = some q from h5]
  dsimp only
  rw [if_pos h4, bnd_of (mpSet_of h1)]
  rfl

/-! ## Calls -/

noncomputable def lsV (l : V) : List V := @V.rec (fun _ => List V) ([]) ([]) (fun _ => []) (fun _ => []) (fun _ _ => []) (fun _ => []) (fun _ _ => []) ([]) (fun _ _ _ _ => []) ([]) ([]) (fun x r _ ih => x :: ih) (fun _ _ => []) (fun _ _ => []) (fun _ => []) ([]) (fun _ _ _ => []) ([]) (fun _ _ _ => []) ([]) (fun _ => []) l
theorem lsV_eq : ∀ l, (lsV l).map cv = cvL l := by
  intro l
  induction l with
  | cons x r _ ih => show cv x :: (lsV r).map cv = cv x :: cvL r; rw [ih]
  | _ => rfl

/-- A function of the second machine. -/
abbrev KF := List V → (V → St) → St
def CRef (fl : KF) (m : List Value → M Value) : Prop := ∀ vs ws K K', VL' vs ws → KR K K' → Ref (fl vs K) (bnd (m ws) K')
abbrev EnvK := FuncId → Option KF
def ER (E : EnvK) (E' : Fw.Env) : Prop := ∀ g fl, E g = some fl → ∃ m, E' g = some m ∧ CRef fl m
noncomputable abbrev callO (o : Option KF) (xs : List V) (K : V → St) : St := @Option.rec KF (fun _ => St) bad (fun fl => fl xs K) o
noncomputable def kCall (E : EnvK) (f : V) (xs : List V) (K : V → St) : St := fun a t => on_f f fun g l => callO (E g) (xs ++ lsV l) K a t
theorem VL'.of : ∀ l : List V, VL' l (l.map cv)
  | [] => .nil
  | x :: r => .cons (.of x) (VL'.of r)
theorem VL'.append {a b : List V} {a' b' : List Value} (h : VL' a a') (k : VL' b b') : VL' (a ++ b) (a' ++ b') := by
  induction h with
  | nil => exact k
  | cons hx _ ih => exact .cons hx ih
theorem kCall_ref {E : EnvK} {E' : Fw.Env} (hE : ER E E') {f : V} {w : Value} (hf : VRel f w) {xs : List V} {ws : List Value} (hx : VL' xs ws) {K : V → St} {K' : Value → M Value} (hK : KR K K') : Ref (kCall E f xs K) (bnd (opCall E' w ws) K') := by
  intro a t n h hr v a' t' e
  replace e := on_f_ok e
  obtain ⟨g, l, rfl, e⟩ := e
  rw [hf.got (by simp)]
  cases hg : E g with
  | none => rw [hg] at e; cases e
  | some fl =>
    rw [hg] at e
    obtain ⟨m, hm, hc⟩ := hE g fl hg
    have : opCall E' (cv (.f g l)) ws = m (ws ++ cvL l) := by
      show (match E' g with
        | some m => m (ws ++ (cvL l).toArray.toList)
        | none => fail) = _
      rw [hm, List.toList_toArray]
    rw [this]
    exact hc _ _ _ _ (hx.append (by rw [← lsV_eq]; exact .of _)) hK _ _ _ _ hr _ _ _ e

end Go.Fk
end
section
set_option linter.unusedVariables false
namespace Go.Fk
open Go Go.Fw

noncomputable def memW (t : Nat) (sn : V) (k : Bool → R) : R := @V.rec (fun _ => R) (k false) (k false) (fun _ => k false) (fun _ => k false) (fun _ _ => k false) (fun _ => k false) (fun _ _ => k false) (k false) (fun _ _ _ _ => k false) (k false) (k false) (fun x _ _ ih => on_w x fun s => @Bool.rec (fun _ => R) ih (k true) (Nat.beq s t)) (fun _ _ => k false) (fun _ _ => k false) (fun _ => k false) (k false) (fun _ _ _ => k false) (k false) (fun _ _ _ => k false) (k false) (fun _ => k false) sn
noncomputable def wordsK (sn : V) (k : R) : R := @V.rec (fun _ => R) (k) (k) (fun _ => k) (fun _ => k) (fun _ _ => k) (fun _ => k) (fun _ _ => k) (k) (fun _ _ _ _ => k) (k) (k) (fun x _ _ ih => on_w x fun _ => ih) (fun _ _ => k) (fun _ _ => k) (fun _ => k) (k) (fun _ _ _ => k) (k) (fun _ _ _ => k) (k) (fun _ => k) sn
noncomputable def unsK (c : Nat) (sn es : V) : Nat → (V → R) → R := @V.rec (fun _ => Nat → (V → R) → R) (fun ph k => @Nat.rec (fun _ => R) (k .nil) (fun _ _ => .bad) ph) (fun ph k => @Nat.rec (fun _ => R) (k .nil) (fun _ _ => .bad) ph) (fun _ => fun ph k => @Nat.rec (fun _ => R) (k .nil) (fun _ _ => .bad) ph) (fun _ => fun ph k => @Nat.rec (fun _ => R) (k .nil) (fun _ _ => .bad) ph) (fun _ _ => fun ph k => @Nat.rec (fun _ => R) (k .nil) (fun _ _ => .bad) ph) (fun _ => fun ph k => @Nat.rec (fun _ => R) (k .nil) (fun _ _ => .bad) ph) (fun _ _ => fun ph k => @Nat.rec (fun _ => R) (k .nil) (fun _ _ => .bad) ph) (fun ph k => @Nat.rec (fun _ => R) (k .nil) (fun _ _ => .bad) ph) (fun _ _ _ _ => fun ph k => @Nat.rec (fun _ => R) (k .nil) (fun _ _ => .bad) ph) (fun ph k => @Nat.rec (fun _ => R) (k .nil) (fun _ _ => .bad) ph) (fun ph k => @Nat.rec (fun _ => R) (k .nil) (fun _ _ => .bad) ph) (fun x r _ ih ph k => @Nat.rec (fun _ => R) (on_cons r fun v r2 => on_cons r2 fun tt _ => on_i tt fun z => @Int.rec (fun _ => R) (fun t => ifR (Nat.blt t c) (memW t sn fun b => @Bool.rec (fun _ => R) (ih 2 fun l => k (.cons x (.cons v (.cons tt l)))) (ih 2 k) b) .bad) (fun _ => .bad) z) (fun q _ => ih q k) ph) (fun _ _ => fun ph k => @Nat.rec (fun _ => R) (k .nil) (fun _ _ => .bad) ph) (fun _ _ => fun ph k => @Nat.rec (fun _ => R) (k .nil) (fun _ _ => .bad) ph) (fun _ => fun ph k => @Nat.rec (fun _ => R) (k .nil) (fun _ _ => .bad) ph) (fun ph k => @Nat.rec (fun _ => R) (k .nil) (fun _ _ => .bad) ph) (fun _ _ _ => fun ph k => @Nat.rec (fun _ => R) (k .nil) (fun _ _ => .bad) ph) (fun ph k => @Nat.rec (fun _ => R) (k .nil) (fun _ _ => .bad) ph) (fun _ _ _ => fun ph k => @Nat.rec (fun _ => R) (k .nil) (fun _ _ => .bad) ph) (fun ph k => @Nat.rec (fun _ => R) (k .nil) (fun _ _ => .bad) ph) (fun _ => fun ph k => @Nat.rec (fun _ => R) (k .nil) (fun _ _ => .bad) ph) es
noncomputable def riseK (es : V) : Nat → Nat → R → R := @V.rec (fun _ => Nat → Nat → R → R) (fun ph lo k => @Nat.rec (fun _ => R) k (fun _ _ => .bad) ph) (fun ph lo k => @Nat.rec (fun _ => R) k (fun _ _ => .bad) ph) (fun _ => fun ph lo k => @Nat.rec (fun _ => R) k (fun _ _ => .bad) ph) (fun _ => fun ph lo k => @Nat.rec (fun _ => R) k (fun _ _ => .bad) ph) (fun _ _ => fun ph lo k => @Nat.rec (fun _ => R) k (fun _ _ => .bad) ph) (fun _ => fun ph lo k => @Nat.rec (fun _ => R) k (fun _ _ => .bad) ph) (fun _ _ => fun ph lo k => @Nat.rec (fun _ => R) k (fun _ _ => .bad) ph) (fun ph lo k => @Nat.rec (fun _ => R) k (fun _ _ => .bad) ph) (fun _ _ _ _ => fun ph lo k => @Nat.rec (fun _ => R) k (fun _ _ => .bad) ph) (fun ph lo k => @Nat.rec (fun _ => R) k (fun _ _ => .bad) ph) (fun ph lo k => @Nat.rec (fun _ => R) k (fun _ _ => .bad) ph) (fun x r _ ih ph lo k => @Nat.rec (fun _ => R) (on_cons r fun v r2 => on_cons r2 fun tt _ => on_i tt fun z => @Int.rec (fun _ => R) (fun t => ifR (Nat.ble lo t) (ih 2 (Nat.succ t) k) .bad) (fun _ => .bad) z) (fun q _ => ih q lo k) ph) (fun _ _ => fun ph lo k => @Nat.rec (fun _ => R) k (fun _ _ => .bad) ph) (fun _ _ => fun ph lo k => @Nat.rec (fun _ => R) k (fun _ _ => .bad) ph) (fun _ => fun ph lo k => @Nat.rec (fun _ => R) k (fun _ _ => .bad) ph) (fun ph lo k => @Nat.rec (fun _ => R) k (fun _ _ => .bad) ph) (fun _ _ _ => fun ph lo k => @Nat.rec (fun _ => R) k (fun _ _ => .bad) ph) (fun ph lo k => @Nat.rec (fun _ => R) k (fun _ _ => .bad) ph) (fun _ _ _ => fun ph lo k => @Nat.rec (fun _ => R) k (fun _ _ => .bad) ph) (fun ph lo k => @Nat.rec (fun _ => R) k (fun _ _ => .bad) ph) (fun _ => fun ph lo k => @Nat.rec (fun _ => R) k (fun _ _ => .bad) ph) es
noncomputable def findB (s : Nat) (es : V) : Nat → (V → V → R) → R := @V.rec (fun _ => Nat → (V → V → R) → R) (fun _ _ => .bad) (fun _ _ => .bad) (fun _ => fun _ _ => .bad) (fun _ => fun _ _ => .bad) (fun _ _ => fun _ _ => .bad) (fun _ => fun _ _ => .bad) (fun _ _ => fun _ _ => .bad) (fun _ _ => .bad) (fun _ _ _ _ => fun _ _ => .bad) (fun _ _ => .bad) (fun _ _ => .bad) (fun x r _ ih ph k => @Nat.rec (fun _ => R) (on_cons r fun v r2 => on_cons r2 fun tt _ => on_i tt fun z => @Int.rec (fun _ => R) (fun t => @Bool.rec (fun _ => R) (ih 2 k) (k x v) (Nat.beq t s)) (fun _ => .bad) z) (fun q _ => ih q k) ph) (fun _ _ => fun _ _ => .bad) (fun _ _ => fun _ _ => .bad) (fun _ => fun _ _ => .bad) (fun _ _ => .bad) (fun _ _ _ => fun _ _ => .bad) (fun _ _ => .bad) (fun _ _ _ => fun _ _ => .bad) (fun _ _ => .bad) (fun _ => fun _ _ => .bad) es
noncomputable def caseL (l : V) (e : R) (k : V → V → R) : R := @V.rec (fun _ => R) (e) (e) (fun _ => e) (fun _ => e) (fun _ _ => e) (fun _ => e) (fun _ _ => e) (e) (fun _ _ _ _ => e) (e) (e) (fun x r _ _ => k x r) (fun _ _ => e) (fun _ _ => e) (fun _ => e) (e) (fun _ _ _ => e) (e) (fun _ _ _ => e) (e) (fun _ => e) l
noncomputable def isNil (l : V) (k : R) : R := @V.rec (fun _ => R) (k) (k) (fun _ => k) (fun _ => k) (fun _ _ => k) (fun _ => k) (fun _ _ => k) (k) (fun _ _ _ _ => k) (k) (k) (fun _ _ _ _ => .bad) (fun _ _ => k) (fun _ _ => k) (fun _ => k) (k) (fun _ _ _ => k) (k) (fun _ _ _ => k) (k) (fun _ => k) l
noncomputable def lastV (l : V) (d : V) : V := @V.rec (fun _ => V → V) (fun d => d) (fun d => d) (fun _ => fun d => d) (fun _ => fun d => d) (fun _ _ => fun d => d) (fun _ => fun d => d) (fun _ _ => fun d => d) (fun d => d) (fun _ _ _ _ => fun d => d) (fun d => d) (fun d => d) (fun x _ _ ih _ => ih x) (fun _ _ => fun d => d) (fun _ _ => fun d => d) (fun _ => fun d => d) (fun d => d) (fun _ _ _ => fun d => d) (fun d => d) (fun _ _ _ => fun d => d) (fun d => d) (fun _ => fun d => d) l d
noncomputable def snocV (l x : V) : V := app l (.cons x .nil)
noncomputable def tup3 (x y z : V) : V := .t (.cons x (.cons y (.cons z .nil)))

theorem caseL_ok {l : V} {e : R} {k : V → V → R} {v : V} {a : Ad} {t : T4} (h : caseL l e k = .ok v a t) : (cvL l = [] ∧ e = .ok v a t) ∨ ∃ x r, l = .cons x r ∧ k x r = .ok v a t := by
  cases l <;> first | exact .inl ⟨rfl, h⟩ | exact .inr ⟨_, _, rfl, h⟩
theorem isNil_ok {l : V} {k : R} {v : V} {a : Ad} {t : T4} (h : isNil l k = .ok v a t) : cvL l = [] ∧ k = .ok v a t := by
  cases l <;> first | exact ⟨rfl, h⟩ | cases h

theorem wordsK_ok {k : R} {v : V} {a : Ad} {t : T4} : ∀ {sn : V}, wordsK sn k = .ok v a t → ∃ S, decS (cvL sn) = some S ∧ cvL sn = S.map (fun t : Nat => Value.int .u64 t) ∧ k = .ok v a t := by
  intro sn
  induction sn with
  | cons x r _ ih =>
    intro h
    obtain ⟨s, rfl, h9⟩ := on_w_ok (show on_w x (fun _ => wordsK r k) = _ from h)
    obtain ⟨S, h1, h2, h3⟩ := ih h9
    refine ⟨s :: S, ?_, ?_, h3⟩
    · show (decS (cvL r)).map (fun l => s :: l) = _
      rw [h1]; rfl
    · show Value.int .u64 s :: cvL r = _
      rw [h2]; rfl
  | _ => intro h; exact ⟨[], rfl, rfl, h⟩
theorem decS_cons {x : Value} {l : List Value} {S : List Nat} (h : decS (x :: l) = some S) : ∃ s S', x = .int .u64 (s : Nat) ∧ decS l = some S' ∧ S = s :: S' := by
  unfold decS at h
  split at h
  · rename_i heq; cases heq
  · rename_i t r heq
    simp only [List.cons.injEq] at heq
    obtain ⟨h1, h2⟩ := heq
    subst h2
    cases hd : decS l with
    | none => rw [hd] at h; cases h
    | some S' => rw [hd] at h; cases h; exact ⟨t, S', h1, rfl, rfl⟩
  · cases h
theorem memW_ok {q : Nat} {k : Bool → R} {v : V} {a : Ad} {t : T4} : ∀ {sn : V} {S : List Nat}, decS (cvL sn) = some S → memW q sn k = .ok v a t → k (S.contains q) = .ok v a t := by
  intro sn
  induction sn with
  | cons x r _ ih =>
    intro S hS h
    obtain ⟨s, rfl, h9⟩ := on_w_ok (show on_w x (fun s => @Bool.rec (fun _ => R) (memW q r k) (k true) (Nat.beq s q)) = _ from h)
    obtain ⟨s', S', h1, h2, rfl⟩ := decS_cons (show decS (cv (.w s) :: cvL r) = some S from hS)
    have hs : s = s' := by
      have h1 : Value.int .u64 (s : Int) = Value.int .u64 (s' : Int) := h1
      simp only [Value.int.injEq, true_and] at h1
      omega
    subst hs
    cases hb : Nat.beq s q with
    | true =>
      rw [hb] at h9
      have := Nat.eq_of_beq_eq_true hb
      subst this
      have hc : (s :: S').contains s = true := by simp
      rw [hc]
      exact h9
    | false =>
      rw [hb] at h9
      have hne : q ≠ s := Ne.symm (Nat.ne_of_beq_eq_false hb)
      have hc : (s :: S').contains q = S'.contains q := by simp [hne]
      rw [hc]
      exact ih h2 h9
  | _ =>
    intro S hS h
    have hS : decS [] = some S := hS
    cases hS
    exact h
theorem lastV_ok : ∀ (sn d : V) (S : List Nat), decS (cvL sn) = some S → cv (lastV sn d) = match S.getLast? with | some t => .int .u64 (t : Nat) | none => cv d := by
  intro sn
  induction sn with
  | cons x r _ ih =>
    intro d S hS
    obtain ⟨s, S', h1, h2, rfl⟩ := decS_cons (show decS (cv x :: cvL r) = some S from hS)
    show cv (lastV r x) = _
    rw [ih x S' h2, List.getLast?_cons]
    cases S'.getLast? with
    | none => exact h1
    | some t => rfl
  | _ =>
    intro d S hS
    have hS : decS [] = some S := hS
    cases hS
    rfl

/-- A list of entries, one at its head. -/
theorem decE_cons {x y : V} {s : Nat} {r : V} {E : List (Value × Value × Nat)} (h : decE (cvL r) = some E) : decE (cvL (.cons x (.cons y (.cons (.i (.ofNat s)) r)))) = some ((cv x, cv y, s) :: E) := by
  show (decE (cvL r)).map (fun l => (cv x, cv y, s) :: l) = _
  rw [h]; rfl

theorem unsK_ok {c : Nat} {sn : V} {S : List Nat} (hS : decS (cvL sn) = some S) {v : V} {a : Ad} {t : T4} : ∀ (N : Nat) (es : V) (k : V → R), SizeOf.sizeOf es < N → unsK c sn es 0 k = .ok v a t →
    ∃ E l, decE (cvL es) = some E ∧ E.all (fun p : Value × Value × Nat => decide (p.2.2 < c)) = true ∧ cvL l = flatE (E.filter fun p : Value × Value × Nat => !S.contains p.2.2) ∧ k l = .ok v a t := by
  intro N
  induction N with
  | zero => intro es k h; omega
  | succ N ih =>
    intro es k hN h
    have nil : cvL es = [] → k .nil = .ok v a t → ∃ E l, decE (cvL es) = some E ∧ E.all (fun p : Value × Value × Nat => decide (p.2.2 < c)) = true ∧ cvL l = flatE (E.filter fun p : Value × Value × Nat => !S.contains p.2.2) ∧ k l = .ok v a t := by
      intro he hk
      exact ⟨[], .nil, by rw [he]; rfl, rfl, rfl, hk⟩
    cases es with
    | cons x r =>
      obtain ⟨y, r2, rfl, h⟩ := on_cons_ok h
      obtain ⟨tt, r3, rfl, h⟩ := on_cons_ok h
      obtain ⟨z, rfl, h⟩ := on_i_ok h
      cases z with
      | negSucc _ => cases h
      | ofNat s =>
      rcases ifR_ok h with ⟨b1, h⟩ | ⟨_, h⟩
      case inr => cases h
      have b1 : s < c := blt_lt b1
      have h2 := memW_ok hS h
      clear h
      cases hc : S.contains s with
      | true =>
        rw [hc] at h2
        obtain ⟨E, l, h3, h4, h5, h6⟩ := ih r3 k (by simp at hN; omega) h2
        refine ⟨_, l, decE_cons h3, ?_, ?_, h6⟩
        · simp [h4, b1]
        · rw [h5, List.filter_cons]
          simp only [hc, Bool.not_true, Bool.false_eq_true, if_false]
      | false =>
        rw [hc] at h2
        obtain ⟨E, l, h3, h4, h5, h6⟩ := ih r3 (fun l => k (.cons x (.cons y (.cons (.i (.ofNat s)) l)))) (by simp at hN; omega) h2
        refine ⟨_, _, decE_cons h3, ?_, ?_, h6⟩
        · simp [h4, b1]
        · rw [List.filter_cons]
          simp only [hc, Bool.not_false, if_true]
          show cv x :: cv y :: Value.int .i64 (s : Nat) :: cvL l = _
          rw [h5]
          rfl
    | _ => exact nil rfl h

theorem riseK_ok {k : R} {v : V} {a : Ad} {t : T4} : ∀ (N : Nat) (es : V) (lo : Nat), SizeOf.sizeOf es < N → riseK es 0 lo k = .ok v a t →
    k = .ok v a t ∧ ∃ E, decE (cvL es) = some E ∧ (∀ p, p ∈ E → lo ≤ p.2.2) ∧ (E.map (·.2.2)).Nodup := by
  intro N
  induction N with
  | zero => intro es lo h; omega
  | succ N ih =>
    intro es lo hN h
    have nil : cvL es = [] → k = .ok v a t → k = .ok v a t ∧ ∃ E, decE (cvL es) = some E ∧ (∀ p, p ∈ E → lo ≤ p.2.2) ∧ (E.map (·.2.2)).Nodup := by
      intro he hk
      exact ⟨hk, [], by rw [he]; rfl, (fun p hp => nomatch hp), List.nodup_nil⟩
    cases es with
    | cons x r =>
      obtain ⟨y, r2, rfl, h⟩ := on_cons_ok h
      obtain ⟨tt, r3, rfl, h⟩ := on_cons_ok h
      obtain ⟨z, rfl, h⟩ := on_i_ok h
      cases z with
      | negSucc _ => cases h
      | ofNat s =>
      rcases ifR_ok h with ⟨b1, h⟩ | ⟨_, h⟩
      case inr => cases h
      have b1 : lo ≤ s := Nat.le_of_ble_eq_true b1
      obtain ⟨hk, E, h3, h4, h5⟩ := ih r3 (Nat.succ s) (by simp at hN; omega) h
      refine ⟨hk, _, decE_cons h3, fun p hp => ?_, ?_⟩
      · rcases List.mem_cons.1 hp with rfl | hp
        · exact b1
        · have := h4 p hp
          omega
      · rw [List.map_cons, List.nodup_cons]
        refine ⟨fun hm => ?_, h5⟩
        obtain ⟨p, hp, hps⟩ := List.mem_map.1 hm
        have := h4 p hp
        have hps : p.2.2 = s := hps
        omega
    | _ => exact nil rfl h

theorem findB_ok {s : Nat} {k : V → V → R} {v : V} {a : Ad} {t : T4} : ∀ (N : Nat) (es : V) (E : List (Value × Value × Nat)), SizeOf.sizeOf es < N → decE (cvL es) = some E → findB s es 0 k = .ok v a t →
    ∃ x y t', E.find? (fun p : Value × Value × Nat => decide (p.2.2 = s)) = some (cv x, cv y, t') ∧ k x y = .ok v a t := by
  intro N
  induction N with
  | zero => intro es E h; omega
  | succ N ih =>
    intro es E hN hE h
    cases es with
    | cons x r =>
      obtain ⟨y, r2, rfl, h⟩ := on_cons_ok h
      obtain ⟨tt, r3, rfl, h⟩ := on_cons_ok h
      obtain ⟨z, rfl, h⟩ := on_i_ok h
      cases z with
      | negSucc _ => cases h
      | ofNat q =>
      have hE2 : (decE (cvL r3)).map (fun l => (cv x, cv y, q) :: l) = some E := hE
      cases hd : decE (cvL r3) with
      | none => rw [hd] at hE2; cases hE2
      | some E3 =>
      rw [hd] at hE2
      cases hE2
      replace h : @Bool.rec (fun _ => R) (findB s r3 0 k) (k x y) (Nat.beq q s) = .ok v a t := h
      cases hb : Nat.beq q s with
      | true =>
        rw [hb] at h
        have := Nat.eq_of_beq_eq_true hb
        exact ⟨x, y, q, by simp [List.find?_cons, this], h⟩
      | false =>
        rw [hb] at h
        have hne : q ≠ s := Nat.ne_of_beq_eq_false hb
        obtain ⟨x2, u2, t2, h1, h2⟩ := ih r3 E3 (by simp at hN; omega) hd h
        exact ⟨x2, u2, t2, by simp [List.find?_cons, hne, h1], h2⟩
    | _ => cases h

noncomputable def kRange (m : V) (K : V → St) : St := fun a t => onM m (inc (K (.p a 0)) a (put a (.dead (.cons .nf (.cons (.b false) .nil))) t))
  fun d => mpK d t fun r => on_cons r fun s r => on_w s fun _ => on_cons r fun c _ => on_w c fun c => inc (K (.p a 0)) a (put a (.dead (.cons .nf (.cons (.b true) (.cons (.w (num d)) (.cons (.w c) (.cons (.w c) .nil)))))) t)
theorem kRange_ref {m : V} {w : Value} (hm : VRel m w) {K : V → St} {K' : Value → M Value} (hK : KR K K') : Ref (kRange m K) (bnd (opRange w) K') := by
  refine Ref.step hK fun a t n h hr v a' t' e => ?_
  rcases onM_ok e with ⟨rfl, e1⟩ | ⟨d, rfl, e1⟩
  · obtain ⟨b, hb, e1⟩ := inc_ok e1
    rw [hm.got (by simp)]
    refine ⟨.p a 0, _, b, _, n + 1, _, ?_, .of _, hr.new hb (B := .dead (.cons .nf (.cons (.b false) .nil))) rfl, e1⟩
    show bnd (new [.nilFunc, .bool false] .dead) (fun i => ret (Value.pointer (some ⟨i, 0, none⟩))) n h = _
    rw [bnd_of (new_of (hr.fresh n (Nat.le_refl _)) rfl), hr.n_eq]
    rfl
  · obtain ⟨r, h1, e1⟩ := mpK_ok hr e1
    obtain ⟨s, r1, rfl, e2⟩ := on_cons_ok e1
    obtain ⟨sz, rfl, e3⟩ := on_w_ok e2
    obtain ⟨c, r2, rfl, e4⟩ := on_cons_ok e3
    obtain ⟨c, rfl, e5⟩ := on_w_ok e4
    obtain ⟨b, hb, e6⟩ := inc_ok e5
    rw [hm.got (by simp)]
    refine ⟨.p a 0, _, b, _, n + 1, _, ?_, .of _, hr.new hb (B := .dead (.cons .nf (.cons (.b true) (.cons (.w (num d)) (.cons (.w c) (.cons (.w c) .nil)))))) rfl, e6⟩
    show bnd (mpGet (num d)) _ n h = _
    rw [bnd_of (mpGet_of h1)]
    show bnd (new [.nilFunc, .bool true, .int .u64 (num d : Nat), .int .u64 (c : Nat), .int .u64 (c : Nat)] .dead) (fun i => ret (Value.pointer (some ⟨i, 0, none⟩))) n h = _
    rw [bnd_of (new_of (hr.fresh n (Nat.le_refl _)) rfl), hr.n_eq]
    rfl

noncomputable def kNext (it : V) (K : V → St) : St := fun a t => on_p it fun d o => ifR (Nat.beq o 0) (mpK d t fun r => on_cons r fun f r => on_b f fun f => @Bool.rec (fun _ => R)
  (isNil r (K (.t (.cons (.b false) .nil)) a t))
  (on_cons r fun m r => on_w m fun m => on_cons r fun s r => on_w s fun s => on_cons r fun l sn => on_w l fun l => ifR (Nat.blt m 65536) (mpK (adOf m) t fun ms => on_cons ms fun z ms => on_w z fun _ => on_cons ms fun c es => on_w c fun c =>
    ifR (Nat.beq s c) (ifR (Nat.ble s l) (wordsK sn (unsK s sn es 0 fun left => caseL left (K (.t (.cons (.b false) .nil)) a t) fun k r => on_cons r fun v r => on_cons r fun t' r => on_i t' fun t' => @Int.rec (fun _ => R) (fun t' => isNil r
      (K (tup3 (.b true) k v) a (put d (.dead (.cons .nf (.cons (.b true) (.cons (.w m) (.cons (.w s) (.cons (.w c) (snocV sn (.w t')))))))) t))) (fun _ => .bad) t')) .bad) .bad) .bad) f) .bad
theorem kNext_ref {it : V} {w : Value} (hm : VRel it w) {K : V → St} {K' : Value → M Value} (hK : KR K K') : Ref (kNext it K) (bnd (opNext w) K') := by
  refine Ref.step hK fun a t n h hr v a' t' e => ?_
  obtain ⟨d, o, rfl, e1⟩ := on_p_ok e
  rcases ifR_ok e1 with ⟨b0, e2⟩ | ⟨_, e2⟩
  case inr => cases e2
  have b0 := Nat.eq_of_beq_eq_true b0
  subst b0
  obtain ⟨r, h1, e3⟩ := mpK_ok hr e2
  obtain ⟨f, r, rfl, e4⟩ := on_cons_ok e3
  obtain ⟨f, rfl, e5⟩ := on_b_ok e4
  rw [hm.got (by simp)]
  cases f with
  | false =>
    obtain ⟨h2, e6⟩ := isNil_ok (show isNil r (K (.t (.cons (.b false) .nil)) a t) = _ from e5)
    refine ⟨_, _, a, t, n, h, ?_, .of (.t (.cons (.b false) .nil)), hr, e6⟩
    show bnd (mpGet (num d)) _ n h = _
    rw [bnd_of (mpGet_of h1)]
    have h3 : cvL (.cons (.b false) r) = [.bool false] := by
      show Value.bool false :: cvL r = _
      rw [h2]
    rw [h3]
    rfl
  | true =>
    obtain ⟨m, r, rfl, e7⟩ := on_cons_ok e5
    obtain ⟨m, rfl, e8⟩ := on_w_ok e7
    obtain ⟨s, r, rfl, e9⟩ := on_cons_ok e8
    obtain ⟨s, rfl, e10⟩ := on_w_ok e9
    obtain ⟨l, sn, rfl, e11⟩ := on_cons_ok e10
    obtain ⟨l, rfl, e12⟩ := on_w_ok e11
    rcases ifR_ok e12 with ⟨b1, e13⟩ | ⟨_, e13⟩
    case inr => cases e13
    obtain ⟨ms, h2, e14⟩ := mpK_ok hr e13
    rw [num_adOf (blt_lt b1)] at h2
    obtain ⟨z, ms, rfl, e15⟩ := on_cons_ok e14
    obtain ⟨z, rfl, e16⟩ := on_w_ok e15
    obtain ⟨c, es, rfl, e17⟩ := on_cons_ok e16
    obtain ⟨c, rfl, e18⟩ := on_w_ok e17
    rcases ifR_ok e18 with ⟨b2, e19⟩ | ⟨_, e19⟩
    case inr => cases e19
    rcases ifR_ok e19 with ⟨b3, e20⟩ | ⟨_, e20⟩
    case inr => cases e20
    have b2 := Nat.eq_of_beq_eq_true b2
    subst b2
    have b3 := Nat.le_of_ble_eq_true b3
    obtain ⟨S, hS, hS2, e21⟩ := wordsK_ok e20
    obtain ⟨E, left, hE, hlt, hl, e22⟩ := unsK_ok hS _ es _ (Nat.lt_succ_self _) e21
    have hgo : ∀ q, (match E.filter (fun p : Value × Value × Nat => !S.contains p.2.2) with
          | [] => ret (Value.tuple #[.bool false])
          | [(k, v, t)] => bnd (mpSet (num d) (.bool true :: .int .u64 m :: .int .u64 s :: .int .u64 s :: (S ++ [t]).map fun t : Nat => Value.int .u64 t)) fun _ => ret (Value.tuple #[.bool true, k, v])
          | _ => fail) n h = q → opNext (cv (.p d 0)) n h = q := by
      intro q hq
      show bnd (mpGet (num d)) _ n h = _
      rw [bnd_of (mpGet_of h1)]
      show bnd (mpGet m) _ n h = _
      rw [bnd_of (mpGet_of h2)]
      show (match decE (cvL es), decS (cvL sn) with
        | some E, some seen => if E.all (fun p : Value × Value × Nat => decide (p.2.2 < s)) && decide (s ≤ l) && decide (s = s) then (match E.filter (fun p : Value × Value × Nat => !seen.contains p.2.2) with
          | [] => ret (Value.tuple #[.bool false])
          | [(k, v, t)] => bnd (mpSet (num d) (.bool true :: .int .u64 m :: .int .u64 s :: .int .u64 s :: (seen ++ [t]).map fun t : Nat => Value.int .u64 t)) fun _ => ret (Value.tuple #[.bool true, k, v])
          | _ => fail) else fail
        | _, _ => fail) n h = _
      rw [hE, hS]
      dsimp only
      rw [if_pos (by simp [b3]; simpa using hlt)]
      exact hq
    rcases caseL_ok e22 with ⟨h3, e23⟩ | ⟨k, r, rfl, e23⟩
    · rw [hl] at h3
      have hF : E.filter (fun p : Value × Value × Nat => !S.contains p.2.2) = [] := by
        cases hf : E.filter (fun p : Value × Value × Nat => !S.contains p.2.2) with
        | nil => rfl
        | cons p F => rw [hf] at h3; obtain ⟨p1, p2, p3⟩ := p; simp [flatE] at h3
      refine ⟨_, _, a, t, n, h, hgo _ ?_, .of (.t (.cons (.b false) .nil)), hr, e23⟩
      rw [hF]
      rfl
    · obtain ⟨y, r, rfl, f23⟩ := on_cons_ok e23
      obtain ⟨tt, r, rfl, e24⟩ := on_cons_ok f23
      obtain ⟨z, rfl, e25⟩ := on_i_ok e24
      cases z with
      | negSucc _ => cases e25
      | ofNat t' =>
      obtain ⟨h4, e26⟩ := isNil_ok (show isNil r _ = _ from e25)
      have hF : E.filter (fun p : Value × Value × Nat => !S.contains p.2.2) = [(cv k, cv y, t')] := by
        have hl : cv k :: cv y :: Value.int .i64 (t' : Nat) :: cvL r = flatE (E.filter (fun p : Value × Value × Nat => !S.contains p.2.2)) := hl
        rw [h4] at hl
        cases hf : E.filter (fun p : Value × Value × Nat => !S.contains p.2.2) with
        | nil => rw [hf] at hl; simp [flatE] at hl
        | cons p F =>
          obtain ⟨p1, p2, p3⟩ := p
          rw [hf] at hl
          simp only [flatE, List.cons.injEq, Value.int.injEq, true_and] at hl
          obtain ⟨g1, g2, g3, g4⟩ := hl
          have : F = [] := by
            cases F with
            | nil => rfl
            | cons q F => obtain ⟨q1, q2, q3⟩ := q; simp [flatE] at g4
          subst this
          have : t' = p3 := by omega
          subst this
          rw [g1, g2]
      refine ⟨_, _, a, _, n, _, hgo _ ?_, .of (tup3 (.b true) k y), hr.put (d := d) (B := .dead (.cons .nf (.cons (.b true) (.cons (.w m) (.cons (.w s) (.cons (.w s) (snocV sn (.w t')))))))) (C := ⟨.nilFunc :: .bool true :: .int .u64 m :: .int .u64 s :: .int .u64 s :: (S ++ [t']).map fun t : Nat => Value.int .u64 t, .dead⟩) (by rw [h1]; rfl) ?_, e26⟩
      · rw [hF]
        show bnd (mpSet (num d) _) _ n h = _
        rw [bnd_of (mpSet_of h1)]
        rfl
      · show some (Blk.mk (.nilFunc :: .bool true :: .int .u64 m :: .int .u64 s :: .int .u64 s :: cvL (app sn (.cons (.w t') .nil))) .dead) = _
        rw [app_eq, hS2, List.map_append]
        rfl

noncomputable def kEntry (it : V) (K : V → St) : St := fun a t => on_p it fun d o => ifR (Nat.beq o 0) (mpK d t fun r => on_cons r fun f r => on_b f fun f => @Bool.rec (fun _ => R) .bad
  (on_cons r fun m r => on_w m fun m => on_cons r fun s r => on_w s fun s => on_cons r fun l sn => on_w l fun l => ifR (Nat.beq s l) (wordsK sn (on_w (lastV sn .u) fun q => ifR (Nat.blt m 65536) (mpK (adOf m) t fun ms => on_cons ms fun z ms => on_w z fun _ => on_cons ms fun c es => on_w c fun c =>
    ifR (Nat.beq s c) (riseK es 0 0 (findB q es 0 fun k v => K (tup2 k v) a t)) .bad) .bad)) .bad) f) .bad
theorem kEntry_ref {it : V} {w : Value} (hm : VRel it w) {K : V → St} {K' : Value → M Value} (hK : KR K K') : Ref (kEntry it K) (bnd (opEntry w) K') := by
  refine Ref.step hK fun a t n h hr v a' t' e => ?_
  obtain ⟨d, o, rfl, e1⟩ := on_p_ok e
  rcases ifR_ok e1 with ⟨b0, e2⟩ | ⟨_, e2⟩
  case inr => cases e2
  have b0 := Nat.eq_of_beq_eq_true b0
  subst b0
  obtain ⟨r, h1, e3⟩ := mpK_ok hr e2
  obtain ⟨f, r, rfl, e4⟩ := on_cons_ok e3
  obtain ⟨f, rfl, e5⟩ := on_b_ok e4
  rw [hm.got (by simp)]
  cases f with
  | false => cases e5
  | true =>
    obtain ⟨m, r, rfl, e6⟩ := on_cons_ok e5
    obtain ⟨m, rfl, e7⟩ := on_w_ok e6
    obtain ⟨s, r, rfl, e8⟩ := on_cons_ok e7
    obtain ⟨s, rfl, e9⟩ := on_w_ok e8
    obtain ⟨l, sn, rfl, e10⟩ := on_cons_ok e9
    obtain ⟨l, rfl, e11⟩ := on_w_ok e10
    rcases ifR_ok e11 with ⟨b1, e12⟩ | ⟨_, e12⟩
    case inr => cases e12
    have b1 := Nat.eq_of_beq_eq_true b1
    subst b1
    obtain ⟨S, hS, hS2, e13⟩ := wordsK_ok e12
    obtain ⟨q, hq, e14⟩ := on_w_ok e13
    rcases ifR_ok e14 with ⟨b2, e15⟩ | ⟨_, e15⟩
    case inr => cases e15
    obtain ⟨ms, h2, e16⟩ := mpK_ok hr e15
    rw [num_adOf (blt_lt b2)] at h2
    obtain ⟨z, ms, rfl, e17⟩ := on_cons_ok e16
    obtain ⟨z, rfl, e18⟩ := on_w_ok e17
    obtain ⟨c, es, rfl, e19⟩ := on_cons_ok e18
    obtain ⟨c, rfl, e20⟩ := on_w_ok e19
    rcases ifR_ok e20 with ⟨b3, e21⟩ | ⟨_, e21⟩
    case inr => cases e21
    have b3 := Nat.eq_of_beq_eq_true b3
    subst b3
    obtain ⟨e22, E, hE, _, hnd⟩ := riseK_ok _ es 0 (Nat.lt_succ_self _) e21
    obtain ⟨x, y, t2, hf, e23⟩ := findB_ok _ es E (Nat.lt_succ_self _) hE e22
    have hlast : S.getLast? = some q := by
      have := lastV_ok sn .u S hS
      rw [hq] at this
      cases hg : S.getLast? with
      | none => rw [hg] at this; cases this
      | some t9 =>
        rw [hg] at this
        have this : Value.int .u64 (q : Int) = Value.int .u64 (t9 : Int) := this
        simp only [Value.int.injEq, true_and] at this
        have : q = t9 := by omega
        rw [this]
    refine ⟨_, _, a, t, n, h, ?_, .of (tup2 x y), hr, e23⟩
    show bnd (mpGet (num d)) _ n h = _
    rw [bnd_of (mpGet_of h1)]
    show bnd (mpGet m) _ n h = _
    rw [bnd_of (mpGet_of h2)]
    show (match decE (cvL es), decS (cvL sn) with
        | some E, some seen => (match seen.getLast?, decide (s = s) && decide (s = s) && decide ((E.map fun p : Value × Value × Nat => p.2.2).Nodup) with
          | some t, true => (match E.find? (fun p : Value × Value × Nat => decide (p.2.2 = t)) with
            | some (k, v, _) => ret (Value.tuple #[k, v])
            | none => fail)
          | _, _ => fail)
        | _, _ => fail) n h = _
    rw [hE, hS]
    dsimp only
    rw [hlast, decide_eq_true hnd, decide_eq_true (rfl : s = s)]
    show (match E.find? (fun p : Value × Value × Nat => decide (p.2.2 = q)) with
            | some (k, v, _) => ret (Value.tuple #[k, v])
            | none => fail) n h = _
    rw [hf]
    rfl
end Go.Fk
end
section
set_option linter.unusedVariables false
namespace Go.Fk
open Go Go.Fw

/-! ## Operands -/

noncomputable def lookK (Γ : List (Nat × V)) (t : Nat) : V := @List.rec (Nat × V) (fun _ => V) .u (fun p _ ih => @Bool.rec (fun _ => V) ih p.2 (Nat.beq t p.1)) Γ
theorem lookK_cons (k : Nat) (v : V) (r : List (Nat × V)) (t : Nat) : lookK ((k, v) :: r) t = if t = k then v else lookK r t := by
  show @Bool.rec (fun _ => V) (lookK r t) v (Nat.beq t k) = _
  by_cases h : t = k
  · subst h; rw [if_pos rfl, Nat.beq_refl]
  · rw [if_neg h]
    cases hb : Nat.beq t k with
    | true => exact absurd (Nat.eq_of_beq_eq_true hb) h
    | false => rfl
noncomputable def evK (G : Nat) (Γ : List (Nat × V)) : Operand → V
  | .tmp t => lookK Γ t
  | .const v => if okC v then vc v else .u
  | .global g => if g < G ∧ g < 65536 then .p (adOf g) 0 else .u
  | .func f => .f f .nil
def GR (Γ : List (Nat × V)) (Γ' : List (Nat × Value)) : Prop := ∀ t, VRel (lookK Γ t) (Fw.look Γ' t)
theorem GR.nil (Γ' : List (Nat × Value)) : GR [] Γ' := fun t => .inl rfl
theorem GR.cons {Γ : List (Nat × V)} {Γ' : List (Nat × Value)} (h : GR Γ Γ') (d : Nat) {v : V} {w : Value} (hv : VRel v w) : GR ((d, v) :: Γ) ((d, w) :: Γ') := fun t => by
  rw [lookK_cons]; simp only [Fw.look]
  split
  · exact hv
  · exact h t
theorem ev_rel {G : Nat} {Γ : List (Nat × V)} {Γ' : List (Nat × Value)} (h : GR Γ Γ') (x : Operand) : VRel (evK G Γ x) (ev G Γ' x) := by
  cases x with
  | tmp t => exact h t
  | const v =>
    simp only [evK, ev]
    split
    · exact vc_rel v
    · exact .inl rfl
  | global g =>
    simp only [evK, ev]
    split
    · rename_i hg
      rw [if_pos hg.1]
      right
      show Value.pointer (some ⟨num (adOf g), 0, none⟩) = _
      rw [num_adOf hg.2]
    · exact .inl rfl
  | func f => exact .inr rfl
theorem ev_list {G : Nat} {Γ : List (Nat × V)} {Γ' : List (Nat × Value)} (h : GR Γ Γ') : ∀ xs : List Operand, VL' (xs.map (evK G Γ)) (xs.map (ev G Γ'))
  | [] => .nil
  | x :: xs => .cons (ev_rel h x) (ev_list h xs)
theorem ev_opt {G : Nat} {Γ : List (Nat × V)} {Γ' : List (Nat × Value)} (h : GR Γ Γ') : ∀ x : Option Operand, OR (x.map (evK G Γ)) (x.map (ev G Γ'))
  | none => .none
  | some x => .some (ev_rel h x)

def placedK (pl : Nat → Option (Nat × Nat × Bool)) : List (Nat × V) → Option (List Pt)
  | [] => some []
  | (i, v) :: r => match pl i, placedK pl r with
    | some (off, size, ag), some ps => some (⟨off, size, ag, v⟩ :: ps)
    | _, _ => none
theorem placed_rel {G : Nat} {Γ : List (Nat × V)} {Γ' : List (Nat × Value)} (h : GR Γ Γ') (pl : Nat → Option (Nat × Nat × Bool)) : ∀ (ps : List (Nat × Operand)) (l : List Pt), placedK pl (ps.map fun p => (p.1, evK G Γ p.2)) = some l → ∃ l', placed pl (ps.map fun p => (p.1, ev G Γ' p.2)) = some l' ∧ PR l l'
  | [], l, e => by cases e; exact ⟨[], rfl, .nil⟩
  | (i, x) :: ps, l, e => by
    simp only [List.map_cons, placedK] at e
    cases hp : pl i with
    | none => rw [hp] at e; cases e
    | some q =>
      obtain ⟨off, size, ag⟩ := q
      cases hr : placedK pl (ps.map fun p => (p.1, evK G Γ p.2)) with
      | none => rw [hp, hr] at e; cases e
      | some l1 =>
        rw [hp, hr] at e
        cases e
        obtain ⟨l1', h1, h2⟩ := placed_rel h pl ps l1 hr
        exact ⟨_, by simp only [List.map_cons, placed, hp, h1], .cons (ev_rel h x) h2⟩

theorem zeroL_ok {P : Program} {t : TypeId} {z : List Value} (h : zeroL P t = some z) : cvL (vcl z) = z := by
  unfold zeroL at h
  split at h
  · split at h
    · split at h
      · rename_i hc
        cases h
        rw [Bool.and_eq_true] at hc
        exact vcl_ok hc.1
      · cases h
    · cases h
  · cases h
theorem mapN_ok {P : Program} {t : TypeId} {n : Nat} {z : Value} (h : mapN P t = some (n, z)) : cv (vc0 z) = z := by
  unfold mapN at h
  split at h
  · split at h
    · split at h
      · rename_i hc; cases h; exact vc0_ok hc
      · cases h
    · cases h
  · cases h

/-! ## An operation -/

noncomputable abbrev kop (P : Program) (G : Nat) (E : EnvK) (Γ : List (Nat × V)) (op : Op) (K : V → St) : St :=
  match op with
  | .alloc t => match zeroL P t with
    | some z => kPtr (vcl z) K
    | none => bad
  | .box t x => if aggT P t then kBoxN (evK G Γ x) K else kPtr (.cons (evK G Γ x) .nil) K
  | .build t ps =>
    match P.underlying t, zeroL P t with
    | some (.struct fs), some z => if fs.toList.all (fun f => (P.info? f.type).isSome) then (match placedK (placeF P fs) (ps.toList.map fun p => (p.1, evK G Γ p.2)) with
      | some l => kBuild (vcl z) l K
      | none => bad) else bad
    | some (.array _ e), some z => match P.info? e with
      | some inf => (match placedK (fun i => some (i * inf.size, inf.size, aggT P e)) (ps.toList.map fun p => (p.1, evK G Γ p.2)) with
        | some l => kBuild (vcl z) l K
        | none => bad)
      | none => bad
    | _, _ => bad
  | .buildSlice t n ps =>
    match P.underlying t with
    | some (.slice e) => match P.info? e, zeroL P e with
      | some inf, some z => if n ≤ 16777216 ∧ n * inf.size ≤ 16777216 then (match placedK (fun i => some (i * inf.size, inf.size, aggT P e)) (ps.toList.map fun p => (p.1, evK G Γ p.2)) with
        | some l => kBuildSlice n (repK (vcl z) n) l K
        | none => bad) else bad
      | _, _ => bad
    | _ => bad
  | .load t x => match P.underlying t, P.info? t with
    | some _, some i => if aggT P t then kLoadN i.size (evK G Γ x) K else kLoad (evK G Γ x) K
    | _, _ => bad
  | .store t x v => match P.info? t with
    | some i => if aggT P t then kStoreN i.size (evK G Γ x) (evK G Γ v) K else if i.size = 1 then kStore (evK G Γ x) (evK G Γ v) K else bad
    | none => bad
  | .nilCheck x => kNil (evK G Γ x) K
  | .binOp op t x y _ =>
    match op with
    | .eql => (match P.underlying t with
      | some .bool => kEqB false (evK G Γ x) (evK G Γ y) K
      | some (.pointer _) => kEqP false (evK G Γ x) (evK G Γ y) K
      | some (.slice _) => kEqS false (evK G Γ x) (evK G Γ y) K
      | some (.struct _) => (match eqN P t with
        | some n => kEqA n false (evK G Γ x) (evK G Γ y) K
        | none => bad)
      | some (.interface _) => if isC x || isC y then kEqI false (evK G Γ x) (evK G Γ y) K else bad
      | _ => kBin .eql (evK G Γ x) (evK G Γ y) K)
    | .neq => (match P.underlying t with
      | some .bool => kEqB true (evK G Γ x) (evK G Γ y) K
      | some (.pointer _) => kEqP true (evK G Γ x) (evK G Γ y) K
      | some (.slice _) => kEqS true (evK G Γ x) (evK G Γ y) K
      | some (.struct _) => (match eqN P t with
        | some n => kEqA n true (evK G Γ x) (evK G Γ y) K
        | none => bad)
      | some (.interface _) => if isC x || isC y then kEqI true (evK G Γ x) (evK G Γ y) K else bad
      | _ => kBin .neq (evK G Γ x) (evK G Γ y) K)
    | op => kBin op (evK G Γ x) (evK G Γ y) K
  | .unOp .not _ x => kNot (evK G Γ x) K
  | .unOp .neg _ x => kNeg (evK G Γ x) K
  | .unOp .xor _ x => kCom (evK G Γ x) K
  | .convert s d x => match P.underlying s, P.underlying d with
    | some _, some (.int k) => kConv k (evK G Γ x) K
    | _, _ => bad
  | .makeFunc (.func g) first cs => if first.toList.isEmpty then kFunc g (ofL (cs.toList.map (evK G Γ))) K else bad
  | .makeSlice t l c => match P.underlying t with
    | some (.slice e) => match P.info? e, zeroL P e with
      | some i, some z => kMake i.bytes (vcl z) (evK G Γ l) (evK G Γ c) K
      | _, _ => bad
    | _ => bad
  | .slice t x lo hi mx => match P.underlying t with
    | some (.slice e) => match P.info? e with
      | some i => (match lo, hi, mx with
        | some lo, some hi, none => kSlc i.size (evK G Γ x) (evK G Γ lo) (evK G Γ hi) K
        | _, _, _ => kSlice i.size (evK G Γ x) (lo.map (evK G Γ)) (hi.map (evK G Γ)) (mx.map (evK G Γ)) K)
      | none => bad
    | _ => bad
  | .fieldAddr t x f => match P.underlying t with
    | some (.struct fs) => match fs[f]? with
      | some fd => match P.info? fd.type with
        | some i => if i.size = 0 then bad else kFieldAddr fd.offset (evK G Γ x) K
        | none => bad
      | none => bad
    | _ => bad
  | .field t x f => match P.underlying t with
    | some (.struct fs) => match fs[f]? with
      | some fd => match P.underlying fd.type, P.info? fd.type with
        | some _, some i => if aggT P fd.type then kFieldN fd.offset i.size (evK G Γ x) K else kField fd.offset (evK G Γ x) K
        | _, _ => bad
      | none => bad
    | _ => bad
  | .indexAddr t x i => match P.underlying t with
    | some (.slice e) => match P.info? e with
      | some inf => kIndexAddr inf.size (evK G Γ x) (evK G Γ i) K
      | none => bad
    | some (.array n e) => match P.info? e with
      | some inf => kIndexAddrA n inf.size (evK G Γ x) (evK G Γ i) K
      | none => bad
    | _ => bad
  | .index t x i => match P.underlying t with
    | some (.array n e) => match P.underlying e, P.info? e with
      | some _, some inf => if aggT P e then bad else if inf.size = 1 then kIndexA n (evK G Γ x) (evK G Γ i) K else bad
      | _, _ => bad
    | some .string => kIndexS (evK G Γ x) (evK G Γ i) K
    | _ => bad
  | .extract x i => kExtract (evK G Γ x) i K
  | .call c => match c.callee with
    | .value f => (match f with
      | .func g => callO (E g) (c.args.toList.map (evK G Γ)) K
      | f => kCall E (evK G Γ f) (c.args.toList.map (evK G Γ)) K)
    | .builtin .len => match c.argTypes.toList, c.args.toList with
      | [t], [x] => (match P.underlying t with
        | some .string => kLenS (evK G Γ x) K
        | some (.slice _) => kLen (evK G Γ x) K
        | _ => bad)
      | _, _ => bad
    | .builtin .cap => match c.argTypes.toList, c.args.toList with
      | [t], [x] => (match P.underlying t with
        | some (.slice _) => kCap (evK G Γ x) K
        | _ => bad)
      | _, _ => bad
    | .builtin .clear => match c.argTypes.toList, c.args.toList with
      | [t], [x] => (match P.underlying t with
        | some (.slice e) => (match zeroL P e with
          | some z => kClear (vcl z) (evK G Γ x) K
          | none => bad)
        | _ => bad)
      | _, _ => bad
    | .builtin .delete => match c.argTypes.toList, c.args.toList with
      | [t, _], [m, k] => (match mapN P t with
        | some (n, _) => kDelete n (evK G Γ m) (evK G Γ k) K
        | none => bad)
      | _, _ => bad
    | .builtin .max => kMax (c.args.toList.map (evK G Γ)) K
    | .builtin .min => kMin (c.args.toList.map (evK G Γ)) K
    | .builtin .append => match c.argTypes.toList, c.args.toList with
      | [t, u], [s, x] => (match P.underlying t, P.underlying u with
        | some (.slice e), some (.slice _) => (match P.info? e, zeroL P e with
          | some i, some _ => if i.size = 0 then bad else kApp i.size i.bytes (evK G Γ s) (evK G Γ x) K
          | _, _ => bad)
        | some (.slice e), some (.int _) => (match P.info? e, zeroL P e with
          | some i, some z => if i.size = 0 then bad else kAppZ i.size i.bytes (vcl z) (evK G Γ s) (evK G Γ x) K
          | _, _ => bad)
        | _, _ => bad)
      | _, _ => bad
    | _ => bad
  | .makeInterface t x => match P.underlying t with
    | some (.interface _) => bad
    | some _ => kIface t (evK G Γ x) K
    | none => bad
  | .makeMap t none => match mapN P t with
    | some (n, _) => kMakeMap n K
    | none => bad
  | .lookup t m k ok => match mapN P t with
    | some (n, z) => kLookup n (vc0 z) ok (evK G Γ m) (evK G Γ k) K
    | none => bad
  | .insert t m k x => match mapN P t with
    | some (n, _) => kInsert n (evK G Γ m) (evK G Γ k) (evK G Γ x) K
    | none => bad
  | .mapUpdate t m k x => match mapN P t with
    | some (n, _) => kInsert n (evK G Γ m) (evK G Γ k) (evK G Γ x) K
    | none => bad
  | .mapEntry t m k => match mapN P t with
    | some (n, z) => kMapEntry n (vc0 z) (evK G Γ m) (evK G Γ k) K
    | none => bad
  | .entryStore _ m s x => kEntryStore (evK G Γ m) (evK G Γ s) (evK G Γ x) K
  | .range t x => (match P.underlying t with
    | some (.map _ _) => kRange (evK G Γ x) K
    | _ => bad)
  | .next x false => kNext (evK G Γ x) K
  | .entry x => kEntry (evK G Γ x) K
  | _ => bad

theorem kop_ref {P : Program} {G : Nat} {E : EnvK} {E' : Fw.Env} (hE : ER E E') {Γ : List (Nat × V)} {Γ' : List (Nat × Value)} (h : GR Γ Γ') (op : Op) {K : V → St} {K' : Value → M Value} (hK : KR K K') :
    Ref (kop P G E Γ op K) (bnd (aop P G E' Γ' op) K') := by
  have r := fun x => ev_rel (G := G) h x
  cases op
  case alloc t =>
    simp only [kop, aop]
    cases hz : zeroL P t with
    | none => exact Ref.bad
    | some z =>
      dsimp only
      have := kPtr_cells (l := vcl z) hK
      rw [zeroL_ok hz] at this
      exact this
  case box t x =>
    simp only [kop, aop]
    split
    · exact kBoxN_ref (r x) hK
    · exact kPtr_one (r x) hK
  case build t ps =>
    simp only [kop, aop]
    split
    · rename_i fs z hu hz
      rw [hu, hz]
      dsimp only
      split
      · cases hp : placedK (placeF P fs) (ps.toList.map fun p => (p.1, evK G Γ p.2)) with
        | none => exact Ref.bad
        | some l =>
          obtain ⟨l', h1, h2⟩ := placed_rel h _ _ _ hp
          rw [h1]
          dsimp only
          have := kBuild_ref (z := vcl z) h2 hK
          rw [zeroL_ok hz] at this
          exact this
      · exact Ref.bad
    · rename_i m e z hu hz
      rw [hu, hz]
      dsimp only
      cases hi : P.info? e with
      | none => exact Ref.bad
      | some inf =>
        dsimp only
        cases hp : placedK (fun i => some (i * inf.size, inf.size, aggT P e)) (ps.toList.map fun p => (p.1, evK G Γ p.2)) with
        | none => exact Ref.bad
        | some l =>
          obtain ⟨l', h1, h2⟩ := placed_rel h _ _ _ hp
          rw [h1]
          dsimp only
          have := kBuild_ref (z := vcl z) h2 hK
          rw [zeroL_ok hz] at this
          exact this
    · exact Ref.bad
  case buildSlice t n ps =>
    simp only [kop, aop]
    split
    · rename_i e hu
      rw [hu]
      dsimp only
      split
      · rename_i inf z hi hz
        rw [hi, hz]
        dsimp only
        split
        · cases hp : placedK (fun i => some (i * inf.size, inf.size, aggT P e)) (ps.toList.map fun p => (p.1, evK G Γ p.2)) with
          | none => exact Ref.bad
          | some l =>
            obtain ⟨l', h1, h2⟩ := placed_rel h _ _ _ hp
            rw [h1]
            dsimp only
            have := kBuildSlice_ref (m := n) (z := repK (vcl z) n) h2 hK
            rw [repK_eq, zeroL_ok hz] at this
            exact this
        · exact Ref.bad
      · exact Ref.bad
    · exact Ref.bad
  case load t x =>
    simp only [kop, aop]
    split
    · rename_i d i hu hi
      rw [hu, hi]
      dsimp only
      split
      · exact kLoadN_ref (r x) hK
      · exact kLoad_ref (r x) hK
    · exact Ref.bad
  case store t x y =>
    simp only [kop, aop]
    split
    · rename_i i hi
      rw [hi]
      dsimp only
      split
      · exact kStoreN_ref (r x) (r y) hK
      · split
        · exact kStore_ref (r x) (r y) hK
        · exact Ref.bad
    · exact Ref.bad
  case nilCheck x => exact kNil_ref (r x) hK
  case binOp op t x y u =>
    have plain : ∀ op, Ref (kBin op (evK G Γ x) (evK G Γ y) K) (bnd (opBin op (ev G Γ' x) (ev G Γ' y)) K') := fun op => kBin_ref op (r x) (r y) hK
    cases op with
    | eql =>
      cases hu : P.underlying t with
      | none => simp only [kop, aop, hu]; exact plain .eql
      | some d =>
        cases d <;> simp only [kop, aop, hu] <;> first
          | exact plain .eql
          | exact kEqB_ref (r x) (r y) hK
          | exact kEqP_ref (r x) (r y) hK
          | exact kEqS_ref (r x) (r y) hK
          | (cases eqN P t with
            | none => exact Ref.bad
            | some n => exact kEqA_ref (r x) (r y) hK)
          | (split
             · exact kEqI_ref (r x) (r y) hK
             · exact Ref.bad)
    | neq =>
      cases hu : P.underlying t with
      | none => simp only [kop, aop, hu]; exact plain .neq
      | some d =>
        cases d <;> simp only [kop, aop, hu] <;> first
          | exact plain .neq
          | exact kEqB_ref (r x) (r y) hK
          | exact kEqP_ref (r x) (r y) hK
          | exact kEqS_ref (r x) (r y) hK
          | (cases eqN P t with
            | none => exact Ref.bad
            | some n => exact kEqA_ref (r x) (r y) hK)
          | (split
             · exact kEqI_ref (r x) (r y) hK
             · exact Ref.bad)
    | add => exact plain .add
    | sub => exact plain .sub
    | mul => exact plain .mul
    | quo => exact plain .quo
    | rem => exact plain .rem
    | and => exact plain .and
    | or => exact plain .or
    | xor => exact plain .xor
    | shl => exact plain .shl
    | shr => exact plain .shr
    | andNot => exact plain .andNot
    | lss => exact plain .lss
    | leq => exact plain .leq
    | gtr => exact plain .gtr
    | geq => exact plain .geq
  case unOp op t x =>
    cases op with
    | not => exact kNot_ref (r x) hK
    | neg => exact kNeg_ref (r x) hK
    | xor => exact kCom_ref (r x) hK
    | plus => exact Ref.bad
  case convert s d x =>
    simp only [kop, aop]
    split
    · rename_i k hs hd
      rw [hs, hd]
      exact kConv_ref (r x) hK
    · exact Ref.bad
  case makeFunc fn first cs =>
    cases fn with
    | func g =>
      simp only [kop, aop]
      split
      · exact kFunc_ref (ev_list h _) hK
      · exact Ref.bad
    | _ => exact Ref.bad
  case makeSlice t l c =>
    simp only [kop, aop]
    split
    · rename_i e hu
      rw [hu]
      dsimp only
      split
      · rename_i i z hi hz
        rw [hi, hz]
        dsimp only
        have := kMake_ref (bytes := i.bytes) (z := vcl z) (r l) (r c) hK
        rw [zeroL_ok hz] at this
        exact this
      · exact Ref.bad
    · exact Ref.bad
  case slice t x lo hi mx =>
    simp only [kop, aop]
    split
    · rename_i e hu
      rw [hu]
      dsimp only
      split
      · rename_i i hi'
        rw [hi']
        dsimp only
        split
        · exact kSlc_ref (r x) (r _) (r _) hK
        · rename_i hne
          split
          · exact absurd rfl (hne _ _ rfl rfl)
          · exact kSlice_ref (r x) (ev_opt h lo) (ev_opt h hi) (ev_opt h mx) hK
      · exact Ref.bad
    · exact Ref.bad
  case fieldAddr t x f =>
    simp only [kop, aop]
    split
    · rename_i fs hu
      rw [hu]
      dsimp only
      split
      · rename_i fd hf
        rw [hf]
        dsimp only
        split
        · rename_i i hi
          rw [hi]
          dsimp only
          split
          · exact Ref.bad
          · exact kFieldAddr_ref (r x) hK
        · exact Ref.bad
      · exact Ref.bad
    · exact Ref.bad
  case field t x f =>
    simp only [kop, aop]
    split
    · rename_i fs hu
      rw [hu]
      dsimp only
      split
      · rename_i fd hf
        rw [hf]
        dsimp only
        split
        · rename_i d i hd hi
          rw [hd, hi]
          dsimp only
          split
          · exact kFieldN_ref (r x) hK
          · exact kField_ref (r x) hK
        · exact Ref.bad
      · exact Ref.bad
    · exact Ref.bad
  case indexAddr t x i =>
    simp only [kop, aop]
    split
    · rename_i e hu
      rw [hu]
      dsimp only
      split
      · rename_i inf hi
        rw [hi]
        exact kIndexAddr_ref (r x) (r i) hK
      · exact Ref.bad
    · rename_i n e hu
      rw [hu]
      dsimp only
      split
      · rename_i inf hi
        rw [hi]
        exact kIndexAddrA_ref (r x) (r i) hK
      · exact Ref.bad
    · exact Ref.bad
  case index t x i =>
    simp only [kop, aop]
    split
    · rename_i n e hu
      rw [hu]
      dsimp only
      split
      · rename_i d inf hd hi
        rw [hd, hi]
        dsimp only
        split
        · exact Ref.bad
        · split
          · exact kIndexA_ref (r x) (r i) hK
          · exact Ref.bad
      · exact Ref.bad
    · rename_i hu
      rw [hu]
      exact kIndexS_ref (r x) (r i) hK
    · exact Ref.bad
  case extract x i => exact kExtract_ref (r x) hK
  case call c =>
    cases hc : c.callee with
    | invoke q m => simp only [kop, hc]; exact Ref.bad
    | value f =>
      simp only [kop, aop, hc]
      split
      · rename_i g
        cases hg : E g with
        | none => exact Ref.bad
        | some fl =>
          obtain ⟨m, hm, hcr⟩ := hE g fl hg
          have : opCall E' (ev G Γ' (.func g)) (c.args.toList.map (ev G Γ')) = m (c.args.toList.map (ev G Γ')) := by
            show (match E' g with
              | some m => m (c.args.toList.map (ev G Γ') ++ [])
              | none => fail) = _
            rw [hm]
            simp
          rw [this]
          exact hcr _ _ _ _ (ev_list h _) hK
      · exact kCall_ref hE (r _) (ev_list h _) hK
    | builtin bi =>
      cases bi <;> simp only [kop, aop, hc] <;> try exact Ref.bad
      case len =>
        split
        · rename_i t x ht hx
          rw [ht, hx]
          dsimp only
          split
          · rename_i hu; rw [hu]; exact kLenS_ref (r x) hK
          · rename_i hu; rw [hu]; exact kLen_ref (r x) hK
          · exact Ref.bad
        · exact Ref.bad
      case cap =>
        split
        · rename_i t x ht hx
          rw [ht, hx]
          dsimp only
          split
          · rename_i hu; rw [hu]; exact kCap_ref (r x) hK
          · exact Ref.bad
        · exact Ref.bad
      case clear =>
        split
        · rename_i t x ht hx
          rw [ht, hx]
          dsimp only
          split
          · rename_i e hu
            rw [hu]
            dsimp only
            split
            · rename_i z hz
              rw [hz]
              dsimp only
              have := kClear_ref (z := vcl z) (r x) hK
              rw [zeroL_ok hz] at this
              exact this
            · exact Ref.bad
          · exact Ref.bad
        · exact Ref.bad
      case delete =>
        split
        · rename_i t u m k ht hx
          rw [ht, hx]
          dsimp only
          split
          · rename_i n z hz
            rw [hz]
            exact kDelete_ref (r m) (r k) hK
          · exact Ref.bad
        · exact Ref.bad
      case max => exact kMax_ref (ev_list h _) hK
      case min => exact kMin_ref (ev_list h _) hK
      case append =>
        split
        · rename_i t u s x ht hx
          rw [ht, hx]
          dsimp only
          split
          · rename_i e e' hu hu'
            rw [hu, hu']
            dsimp only
            split
            · rename_i i z hi hz
              rw [hi, hz]
              dsimp only
              split
              · exact Ref.bad
              · exact kApp_ref (r s) (r x) hK
            · exact Ref.bad
          · rename_i e q hu hu'
            rw [hu, hu']
            dsimp only
            split
            · rename_i i z hi hz
              rw [hi, hz]
              dsimp only
              split
              · exact Ref.bad
              · have := kAppZ_ref (size := i.size) (bytes := i.bytes) (z := vcl z) (r s) (r x) hK
                rw [zeroL_ok hz] at this
                exact this
            · exact Ref.bad
          · exact Ref.bad
        · exact Ref.bad
  case makeInterface t x =>
    simp only [kop, aop]
    split
    · exact Ref.bad
    · rename_i d hne hu
      split
      · rename_i i hi; exact absurd (hi.symm.trans hu) (by intro q; cases q; exact hne _ rfl)
      · exact kIface_ref (r x) hK
      · rename_i hn; rw [hu] at hn; cases hn
    · exact Ref.bad
  case makeMap t q =>
    cases q with
    | some _ => exact Ref.bad
    | none =>
      simp only [kop, aop]
      split
      · rename_i n z hz; rw [hz]; exact kMakeMap_ref hK
      · exact Ref.bad
  case lookup t m k ok =>
    simp only [kop, aop]
    split
    · rename_i n z hz
      rw [hz]
      have := kLookup_ref (n := n) (z := vc0 z) (ok := ok) (r m) (r k) hK
      rw [mapN_ok hz] at this
      exact this
    · exact Ref.bad
  case insert t m k x =>
    simp only [kop, aop]
    split
    · rename_i n z hz; rw [hz]; exact kInsert_ref (r m) (r k) (r x) hK
    · exact Ref.bad
  case mapUpdate t m k x =>
    simp only [kop, aop]
    split
    · rename_i n z hz; rw [hz]; exact kInsert_ref (r m) (r k) (r x) hK
    · exact Ref.bad
  case mapEntry t m k =>
    simp only [kop, aop]
    split
    · rename_i n z hz
      rw [hz]
      have := kMapEntry_ref (n := n) (z := vc0 z) (r m) (r k) hK
      rw [mapN_ok hz] at this
      exact this
    · exact Ref.bad
  case entryStore t m s x => exact kEntryStore_ref (r m) (r s) (r x) hK
  case range t x =>
    simp only [kop, aop]
    cases hu : P.underlying t with
    | none => exact Ref.bad
    | some q => cases q <;> first | exact kRange_ref (r x) hK | exact Ref.bad
  case next x b =>
    cases b with
    | true => exact Ref.bad
    | false => exact kNext_ref (r x) hK
  case entry x => exact kEntry_ref (r x) hK
  all_goals exact Ref.bad

end Go.Fk
end
section
set_option linter.unusedVariables false
namespace Go.Fk
open Go Go.Fw

/-! ## What a load saw still stands -/

noncomputable def eqV (x y : V) (k : R) : R := @V.rec (fun _ => R) (.bad) (.bad) (fun x_ => @V.rec (fun _ => R) (.bad) (.bad) (fun x' => ifR (sameB x_ x') k .bad) (fun _ => .bad) (fun _ _ => .bad) (fun _ => .bad) (fun _ _ => .bad) (.bad) (fun _ _ _ _ => .bad) (.bad) (.bad) (fun _ _ _ _ => .bad) (fun _ _ => .bad) (fun _ _ => .bad) (fun _ => .bad) (.bad) (fun _ _ _ => .bad) (.bad) (fun _ _ _ => .bad) (.bad) (fun _ => .bad) y) (fun z => @V.rec (fun _ => R) (.bad) (.bad) (fun _ => .bad) (fun z' => ifR (ieq z z') k .bad) (fun _ _ => .bad) (fun _ => .bad) (fun _ _ => .bad) (.bad) (fun _ _ _ _ => .bad) (.bad) (.bad) (fun _ _ _ _ => .bad) (fun _ _ => .bad) (fun _ _ => .bad) (fun _ => .bad) (.bad) (fun _ _ _ => .bad) (.bad) (fun _ _ _ => .bad) (.bad) (fun _ => .bad) y) (fun _ _ => .bad) (fun n => @V.rec (fun _ => R) (.bad) (.bad) (fun _ => .bad) (fun _ => .bad) (fun _ _ => .bad) (fun n' => ifR (Nat.beq n n') k .bad) (fun _ _ => .bad) (.bad) (fun _ _ _ _ => .bad) (.bad) (.bad) (fun _ _ _ _ => .bad) (fun _ _ => .bad) (fun _ _ => .bad) (fun _ => .bad) (.bad) (fun _ _ _ => .bad) (.bad) (fun _ _ _ => .bad) (.bad) (fun _ => .bad) y) (fun a o => @V.rec (fun _ => R) (.bad) (.bad) (fun _ => .bad) (fun _ => .bad) (fun _ _ => .bad) (fun _ => .bad) (fun a' o' => ifR (Nat.beq o o') (ifR (Nat.beq (num a) (num a')) k .bad) .bad) (.bad) (fun _ _ _ _ => .bad) (.bad) (.bad) (fun _ _ _ _ => .bad) (fun _ _ => .bad) (fun _ _ => .bad) (fun _ => .bad) (.bad) (fun _ _ _ => .bad) (.bad) (fun _ _ _ => .bad) (.bad) (fun _ => .bad) y) (@V.rec (fun _ => R) (.bad) (.bad) (fun _ => .bad) (fun _ => .bad) (fun _ _ => .bad) (fun _ => .bad) (fun _ _ => .bad) (k) (fun _ _ _ _ => .bad) (.bad) (.bad) (fun _ _ _ _ => .bad) (fun _ _ => .bad) (fun _ _ => .bad) (fun _ => .bad) (.bad) (fun _ _ _ => .bad) (.bad) (fun _ _ _ => .bad) (.bad) (fun _ => .bad) y) (fun a o len cap => @V.rec (fun _ => R) (.bad) (.bad) (fun _ => .bad) (fun _ => .bad) (fun _ _ => .bad) (fun _ => .bad) (fun _ _ => .bad) (.bad) (fun a' o' len' cap' => ifR (Nat.beq o o') (ifR (Nat.beq len len') (ifR (Nat.beq cap cap') (ifR (Nat.beq (num a) (num a')) k .bad) .bad) .bad) .bad) (.bad) (.bad) (fun _ _ _ _ => .bad) (fun _ _ => .bad) (fun _ _ => .bad) (fun _ => .bad) (.bad) (fun _ _ _ => .bad) (.bad) (fun _ _ _ => .bad) (.bad) (fun _ => .bad) y) (@V.rec (fun _ => R) (.bad) (.bad) (fun _ => .bad) (fun _ => .bad) (fun _ _ => .bad) (fun _ => .bad) (fun _ _ => .bad) (.bad) (fun _ _ _ _ => .bad) (k) (.bad) (fun _ _ _ _ => .bad) (fun _ _ => .bad) (fun _ _ => .bad) (fun _ => .bad) (.bad) (fun _ _ _ => .bad) (.bad) (fun _ _ _ => .bad) (.bad) (fun _ => .bad) y) (.bad) (fun _ _ _ _ => .bad) (fun _ _ => .bad) (fun _ _ => .bad) (fun a => @V.rec (fun _ => R) (.bad) (.bad) (fun _ => .bad) (fun _ => .bad) (fun _ _ => .bad) (fun _ => .bad) (fun _ _ => .bad) (.bad) (fun _ _ _ _ => .bad) (.bad) (.bad) (fun _ _ _ _ => .bad) (fun _ _ => .bad) (fun _ _ => .bad) (fun a' => ifR (Nat.beq (num a) (num a')) k .bad) (.bad) (fun _ _ _ => .bad) (.bad) (fun _ _ _ => .bad) (.bad) (fun _ => .bad) y) (@V.rec (fun _ => R) (.bad) (.bad) (fun _ => .bad) (fun _ => .bad) (fun _ _ => .bad) (fun _ => .bad) (fun _ _ => .bad) (.bad) (fun _ _ _ _ => .bad) (.bad) (.bad) (fun _ _ _ _ => .bad) (fun _ _ => .bad) (fun _ _ => .bad) (fun _ => .bad) (k) (fun _ _ _ => .bad) (.bad) (fun _ _ _ => .bad) (.bad) (fun _ => .bad) y) (fun _ _ _ => .bad) (@V.rec (fun _ => R) (.bad) (.bad) (fun _ => .bad) (fun _ => .bad) (fun _ _ => .bad) (fun _ => .bad) (fun _ _ => .bad) (.bad) (fun _ _ _ _ => .bad) (.bad) (.bad) (fun _ _ _ _ => .bad) (fun _ _ => .bad) (fun _ _ => .bad) (fun _ => .bad) (.bad) (fun _ _ _ => .bad) (k) (fun _ _ _ => .bad) (.bad) (fun _ => .bad) y) (fun _ _ _ => .bad) (@V.rec (fun _ => R) (.bad) (.bad) (fun _ => .bad) (fun _ => .bad) (fun _ _ => .bad) (fun _ => .bad) (fun _ _ => .bad) (.bad) (fun _ _ _ _ => .bad) (.bad) (.bad) (fun _ _ _ _ => .bad) (fun _ _ => .bad) (fun _ _ => .bad) (fun _ => .bad) (.bad) (fun _ _ _ => .bad) (.bad) (fun _ _ _ => .bad) (k) (fun _ => .bad) y) (fun _ => .bad) x
theorem eqV_ok {x y : V} {k : R} {v : V} {a : Ad} {t : T4} (h : eqV x y k = .ok v a t) : veq (cv x) (cv y) = true ∧ x ≠ .u ∧ y ≠ .u ∧ k = .ok v a t := by
  cases x <;> try (cases h; done)
  case b p =>
    cases y <;> try (cases h; done)
    rename_i q
    rcases ifR_ok (show ifR (sameB p q) k .bad = _ from h) with ⟨hb, h⟩ | ⟨_, h⟩
    · rw [sameB_eq] at hb; exact ⟨hb, by simp, by simp, h⟩
    · cases h
  case i z =>
    cases y <;> try (cases h; done)
    rename_i q
    rcases ifR_ok (show ifR (ieq z q) k .bad = _ from h) with ⟨hb, h⟩ | ⟨_, h⟩
    · rw [ieq_eq] at hb
      refine ⟨?_, by simp, by simp, h⟩
      show (decide (IntKind.i64 = IntKind.i64) && decide (z = q)) = true
      rw [hb]; rfl
    · cases h
  case w m =>
    cases y <;> try (cases h; done)
    rename_i q
    rcases ifR_ok (show ifR (Nat.beq m q) k .bad = _ from h) with ⟨hb, h9⟩ | ⟨_, h⟩
    · have := Nat.eq_of_beq_eq_true hb
      subst this
      refine ⟨?_, by simp, by simp, h9⟩
      show (decide (IntKind.u64 = IntKind.u64) && decide ((m : Int) = (m : Int))) = true
      simp
    · cases h
  case p d o =>
    cases y <;> try (cases h; done)
    rename_i d' o'
    rcases ifR_ok (show ifR (Nat.beq o o') (ifR (Nat.beq (num d) (num d')) k .bad) .bad = _ from h) with ⟨hb, h⟩ | ⟨_, h⟩
    · rcases ifR_ok h with ⟨hb2, h9⟩ | ⟨_, h⟩
      · have e1 := Nat.eq_of_beq_eq_true hb
        have e2 := num_inj (Nat.eq_of_beq_eq_true hb2)
        subst e1 e2
        refine ⟨?_, by simp, by simp, h9⟩
        show decide _ = true
        simp
      · cases h
    · cases h
  case np =>
    cases y <;> try (cases h; done)
    exact ⟨rfl, by simp, by simp, h⟩
  case s d o l c =>
    cases y <;> try (cases h; done)
    rename_i d' o' l' c'
    rcases ifR_ok (show ifR (Nat.beq o o') (ifR (Nat.beq l l') (ifR (Nat.beq c c') (ifR (Nat.beq (num d) (num d')) k .bad) .bad) .bad) .bad = _ from h) with ⟨hb, h⟩ | ⟨_, h⟩
    · rcases ifR_ok h with ⟨hb2, h⟩ | ⟨_, h⟩
      · rcases ifR_ok h with ⟨hb3, h⟩ | ⟨_, h⟩
        · rcases ifR_ok h with ⟨hb4, h9⟩ | ⟨_, h⟩
          · have e1 := Nat.eq_of_beq_eq_true hb
            have e2 := Nat.eq_of_beq_eq_true hb2
            have e3 := Nat.eq_of_beq_eq_true hb3
            have e4 := num_inj (Nat.eq_of_beq_eq_true hb4)
            subst e1 e2 e3 e4
            refine ⟨?_, by simp, by simp, h9⟩
            show (decide _ && decide _ && decide _) = true
            simp
          · cases h
        · cases h
      · cases h
    · cases h
  case ns =>
    cases y <;> try (cases h; done)
    exact ⟨rfl, by simp, by simp, h⟩
  case m d =>
    cases y <;> try (cases h; done)
    rename_i d'
    rcases ifR_ok (show ifR (Nat.beq (num d) (num d')) k .bad = _ from h) with ⟨hb, h9⟩ | ⟨_, h⟩
    · have e2 := num_inj (Nat.eq_of_beq_eq_true hb)
      subst e2
      refine ⟨?_, by simp, by simp, h9⟩
      show decide _ = true
      simp
    · cases h
  case nm =>
    cases y <;> try (cases h; done)
    exact ⟨rfl, by simp, by simp, h⟩
  case nf =>
    cases y <;> try (cases h; done)
    exact ⟨rfl, by simp, by simp, h⟩
  case ni =>
    cases y <;> try (cases h; done)
    exact ⟨rfl, by simp, by simp, h⟩

/-- The cells of one list stand at the head of another. -/
noncomputable def eqL (l : V) : V → R → R := @V.rec (fun _ => V → R → R) (fun _ k => k) (fun _ k => k) (fun _ => fun _ k => k) (fun _ => fun _ k => k) (fun _ _ => fun _ k => k) (fun _ => fun _ k => k) (fun _ _ => fun _ k => k) (fun _ k => k) (fun _ _ _ _ => fun _ k => k) (fun _ k => k) (fun _ k => k) (fun x r _ ih m k => on_cons m fun y s => eqV y x (ih s k)) (fun _ _ => fun _ k => k) (fun _ _ => fun _ k => k) (fun _ => fun _ k => k) (fun _ k => k) (fun _ _ _ => fun _ k => k) (fun _ k => k) (fun _ _ _ => fun _ k => k) (fun _ k => k) (fun _ => fun _ k => k) l
theorem eqL_ok : ∀ {l m : V} {k : R} {v : V} {a : Ad} {t : T4}, eqL l m k = .ok v a t → veqL ((cvL m).take (cvL l).length) (cvL l) = true ∧ (cvL l).length ≤ (cvL m).length ∧ k = .ok v a t := by
  intro l
  induction l with
  | cons x r _ ih =>
    intro m k v a t h
    obtain ⟨y, s, hm, h⟩ := on_cons_ok (show on_cons m (fun y s => eqV y x (eqL r s k)) = _ from h)
    obtain ⟨h1, _, _, h⟩ := eqV_ok h
    obtain ⟨h2, h3, h9⟩ := ih h
    subst hm
    refine ⟨?_, by simp [cvL]; omega, h9⟩
    show (veq (cv y) (cv x) && veqL ((cvL s).take (cvL r).length) (cvL r)) = true
    rw [h1, h2]; rfl
  | _ => intro m k v a t h; exact ⟨by simp [cvL, veqL], by simp [cvL], h⟩

noncomputable def kChk (ag : Bool) (x v : V) (k : St) : St := fun a t => on_p x fun d o => live (get d t) fun l => dropK o l fun l =>
  @Bool.rec (fun _ => R) (on_cons l fun y _ => eqV y v (k a t)) (on_a v fun vs => eqL vs l (k a t)) ag
theorem kChk_ref {ag : Bool} {x v : V} {w u : Value} (hx : VRel x w) (hv : VRel v u) {k : St} {m : M Value} (hk : Ref k m) : Ref (kChk ag x v k) (bnd (opChk ag w u) fun _ => m) := by
  intro a t n h hr v' a' t' e
  obtain ⟨d, o, hxe, e⟩ := on_p_ok e
  obtain ⟨l, kd, h1, h2, e⟩ := live_ok e
  obtain ⟨l1, h3, h4, e9⟩ := dropK_ok e
  subst hxe
  have fin : ∀ vs, wcells ag u = vs → veqL ((cvL l1).take vs.length) vs = true → vs.length ≤ (cvL l1).length → k a t = .ok v' a' t' → ∃ w_1 n' h', bnd (opChk ag w u) (fun _ => m) n h = some (w_1, n', h') ∧ VF v' w_1 ∧ HF v' a' t' n' h' := by
    intro vs hw hq hl e
    obtain ⟨w1, n1, h5, e1, e2⟩ := hk _ _ _ _ hr _ _ _ e
    refine ⟨w1, n1, h5, ?_, e2⟩
    have : opChk ag w u n h = some ((), n, h) := by
      rw [hx.got (by simp)]
      show bnd (rdN (num d) o (wcells ag u).length) (fun cs => if veqL cs (wcells ag u) then ret () else fail) n h = _
      rw [hw, bnd_of (rdN_of (hr.got h1) h2 (by rw [h3] at hl; simp at hl; omega)), ← h3, if_pos hq]
      rfl
    rw [bnd_of this]
    exact e1
  cases ag with
  | false =>
    obtain ⟨y, r, hl, e⟩ := on_cons_ok (show on_cons l1 (fun y _ => eqV y v (k a t)) = _ from e9)
    obtain ⟨h5, _, h6, e⟩ := eqV_ok e
    refine fin [u] rfl ?_ ?_ e
    · rw [hl, hv.got h6]
      show (veq (cv y) (cv v) && true) = true
      rw [h5]; rfl
    · rw [hl]; simp [cvL]
  | true =>
    obtain ⟨vs, hvs, e⟩ := on_a_ok (show on_a v (fun vs => eqL vs l1 (k a t)) = _ from e9)
    obtain ⟨h5, h6, e8⟩ := eqL_ok e
    subst hvs
    refine fin (cvL vs) ?_ h5 h6 e8
    rw [hv.got (by simp)]
    show (cvL vs).toArray.toList = _
    simp

/-! ## A region -/

section
variable (P : Program) (G : Nat) (E : EnvK) (N : Nat) (ops : Array Oper)

noncomputable def gwantK (Γ : List (Nat × V)) (o : Oper) : Option Bool :=
  match o.guard with
  | none => some true
  | some (j, want) => match (ops[j]?).bind (·.dst) with
    | some t => (match lookK Γ t with
      | .b b => some (b == want)
      | .sk => some false
      | _ => none)
    | none => none
def putGK (dst : Option Tmp) (v : V) (Γ : List (Nat × V)) : Option (List (Nat × V)) :=
  match dst with
  | none => some Γ
  | some d => if d < N then some ((d, v) :: Γ) else none
/-- A test, as it is told of a region. -/
noncomputable abbrev onBt (v : V) (t f : St) : St := @V.rec (fun _ => St) (bad) (bad) (fun x => @Bool.rec (fun _ => St) f t x) (fun _ => bad) (fun _ _ => bad) (fun _ => bad) (fun _ _ => bad) (bad) (fun _ _ _ _ => bad) (bad) (bad) (fun _ _ _ _ => bad) (fun _ _ => bad) (fun _ _ => bad) (fun _ => bad) (bad) (fun _ _ _ => bad) (bad) (fun _ _ _ => bad) (bad) (fun _ => bad) v
noncomputable abbrev onGK (g : Bool) (v : V) (k : V → St) : St := @Bool.rec (fun _ => St) (k v) (onBt v (k (.b true)) (k (.b false))) g
noncomputable abbrev bopK (Γ : List (Nat × V)) (op : Op) (k : V → St) : St :=
  match op with
  | .move x => k (evK G Γ x)
  | .assign x => k (evK G Γ x)
  | .pick c a b => onBt (evK G Γ c) (k (evK G Γ a)) (k (evK G Γ b))
  | op => kop P G E Γ op k
abbrev WatchK := List (Nat × Bool × V × V)
noncomputable def watchK (bf : List Nat) (i : Nat) (Γ : List (Nat × V)) (v : V) (l : List Nat) : WatchK :=
  match ops[i]? with
  | some o => match o.op with
    | .load t x => (l.filter fun y => isE ops y && !comp bf i y).map fun y => (y, aggT P t, evK G Γ x, v)
    | _ => []
  | none => []
noncomputable abbrev chkKK (W : WatchK) (m : St) : St := @List.rec (Nat × Bool × V × V) (fun _ => St) m (fun p _ ih => kChk p.2.1 p.2.2.1 p.2.2.2 ih) W
noncomputable abbrev runKK (l : List Nat) (Γ : List (Nat × V)) (K : List (Nat × V) → St) : St := @List.rec Nat (fun _ => List (Nat × V) → St) K (fun i _ ih Γ =>
    match ops[i]? with
    | none => bad
    | some o => match gwantK ops Γ o with
      | none => bad
      | some false => (match putGK N o.dst .sk Γ with
        | some Γ' => ih Γ'
        | none => bad)
      | some true => bopK P G E Γ o.op fun v => onGK (isG ops i) v fun v => (match putGK N o.dst v Γ with
        | some Γ' => ih Γ'
        | none => bad)) l Γ
noncomputable abbrev drawKK (bf : List Nat) (l : List Nat) (W : WatchK) (Γ : List (Nat × V)) (K : List (Nat × V) → St) : St := @List.rec Nat (fun _ => WatchK → List (Nat × V) → St) (fun _ => K) (fun i l ih W Γ =>
    match ops[i]? with
    | none => bad
    | some o => match gwantK ops Γ o with
      | none => bad
      | some false => chkKK (W.filter fun e => e.1 == i) (match putGK N o.dst .sk Γ with
        | some Γ' => ih W Γ'
        | none => bad)
      | some true => bopK P G E Γ o.op fun v => onGK (isG ops i) v fun v => chkKK (W.filter fun e => e.1 == i) (match putGK N o.dst v Γ with
        | some Γ' => ih (W ++ watchK P G ops bf i Γ v l) Γ'
        | none => bad)) l W Γ
end

section
variable {P : Program} {G : Nat} {E : EnvK} {E' : Fw.Env} {N : Nat} {ops : Array Oper}

theorem gwant_rel {Γ : List (Nat × V)} {Γ' : List (Nat × Value)} (h : GR Γ Γ') {o : Oper} {b : Bool} (e : gwantK ops Γ o = some b) : gwant ops Γ' o = some b := by
  unfold gwantK at e
  unfold gwant
  cases hg : o.guard with
  | none => rw [hg] at e; exact e
  | some q =>
    obtain ⟨j, want⟩ := q
    rw [hg] at e
    dsimp only at e ⊢
    cases ht : (ops[j]?).bind (·.dst) with
    | none => rw [ht] at e; cases e
    | some t =>
      rw [ht] at e
      dsimp only at e ⊢
      have := h t
      cases hp : lookK Γ t <;> rw [hp] at e this <;> try (cases e; done)
      · rw [this.got (by simp)]
        cases e
        rfl
      · rw [this.got (by simp)]
        exact e
theorem putG_rel {Γ Γ1 : List (Nat × V)} {Γ' : List (Nat × Value)} (h : GR Γ Γ') {dst : Option Tmp} {v : V} {w : Value} (hv : VRel v w) (e : putGK N dst v Γ = some Γ1) : ∃ Γ1', putG N dst w Γ' = some Γ1' ∧ GR Γ1 Γ1' := by
  unfold putGK at e
  unfold putG
  cases dst with
  | none => cases e; exact ⟨_, rfl, h⟩
  | some d =>
    dsimp only at e ⊢
    split at e
    · rename_i hd; cases e; rw [if_pos hd]; exact ⟨_, rfl, h.cons _ hv⟩
    · cases e
theorem onG_ref {g : Bool} {v : V} {w : Value} (hv : VRel v w) {k : V → St} {k' : Value → M Value} (hk : KR k k') : Ref (onGK g v k) (onG g w k') := by
  cases g with
  | true => exact onB_ref hv (hk _ _ (.of (.b true))) (hk _ _ (.of (.b false)))
  | false => exact hk _ _ hv
theorem bop_ref (hE : ER E E') {Γ : List (Nat × V)} {Γ' : List (Nat × Value)} (h : GR Γ Γ') (op : Op) {k : V → St} {k' : Value → M Value} (hk : KR k k') : Ref (bopK P G E Γ op k) (bop P G E' Γ' op k') := by
  have hop := kop_ref (P := P) (G := G) hE h op hk
  unfold bopK bop
  split
  · exact hk _ _ (ev_rel h _)
  · exact hk _ _ (ev_rel h _)
  · exact onB_ref (ev_rel h _) (hk _ _ (ev_rel h _)) (hk _ _ (ev_rel h _))
  · rename_i h1 h2 h3
    split
    · exact absurd rfl (h1 _)
    · exact absurd rfl (h2 _)
    · exact absurd rfl (h3 _ _ _)
    · exact hop

inductive WR : WatchK → Watch → Prop where
  | nil : WR [] []
  | cons {i : Nat} {g : Bool} {x v : V} {w u : Value} {r : WatchK} {s : Watch} : VRel x w → VRel v u → WR r s → WR ((i, g, x, v) :: r) ((i, g, w, u) :: s)
theorem WR.append {a b : WatchK} {c d : Watch} (h : WR a c) (k : WR b d) : WR (a ++ b) (c ++ d) := by
  induction h with
  | nil => exact k
  | cons hx hv _ ih => exact .cons hx hv ih
theorem WR.filter {a : WatchK} {c : Watch} (h : WR a c) (i : Nat) : WR (a.filter fun e => e.1 == i) (c.filter fun e => e.1 == i) := by
  induction h with
  | nil => exact .nil
  | @cons j g x v w u r s hx hv _ ih =>
    simp only [List.filter_cons]
    split
    · exact .cons hx hv ih
    · exact ih
theorem watch_rel {Γ : List (Nat × V)} {Γ' : List (Nat × Value)} (h : GR Γ Γ') {bf : List Nat} {i : Nat} {v : V} {w : Value} (hv : VRel v w) (l : List Nat) : WR (watchK P G ops bf i Γ v l) (watchOf P G ops bf i Γ' w l) := by
  unfold watchK watchOf
  cases ops[i]? with
  | none => exact .nil
  | some o =>
    dsimp only
    cases o.op <;> try exact .nil
    rename_i t x
    dsimp only
    generalize l.filter (fun y => isE ops y && !comp bf i y) = q
    induction q with
    | nil => exact .nil
    | cons y q ih => exact .cons (ev_rel h x) hv ih
theorem chkK_ref {W : WatchK} {W' : Watch} (h : WR W W') {k : St} {m : M Value} (hk : Ref k m) : Ref (chkKK W k) (chkK W' m) := by
  induction h with
  | nil => exact hk
  | cons hx hv _ ih => exact kChk_ref hx hv ih

theorem runK_ref (hE : ER E E') : ∀ (l : List Nat) {Γ : List (Nat × V)} {Γ' : List (Nat × Value)} (h : GR Γ Γ') {K : List (Nat × V) → St} {K' : List (Nat × Value) → M Value} (hK : ∀ Γ1 Γ1', GR Γ1 Γ1' → Ref (K Γ1) (K' Γ1')), Ref (runKK P G E N ops l Γ K) (runK P G E' N ops l Γ' K')
  | [], Γ, Γ', h, K, K', hK => hK _ _ h
  | i :: l, Γ, Γ', h, K, K', hK => by
    show Ref (match ops[i]? with
      | none => bad
      | some o => match gwantK ops Γ o with
        | none => bad
        | some false => (match putGK N o.dst .sk Γ with
          | some Γ' => runKK P G E N ops l Γ' K
          | none => bad)
        | some true => bopK P G E Γ o.op fun v => onGK (isG ops i) v fun v => (match putGK N o.dst v Γ with
          | some Γ' => runKK P G E N ops l Γ' K
          | none => bad)) _
    unfold runK
    cases ops[i]? with
    | none => exact Ref.bad
    | some o =>
      dsimp only
      cases hg : gwantK ops Γ o with
      | none => exact Ref.bad
      | some b =>
        rw [gwant_rel h hg]
        cases b with
        | false =>
          dsimp only
          cases hp : putGK N o.dst .sk Γ with
          | none => exact Ref.bad
          | some Γ1 =>
            obtain ⟨Γ1', h1, h2⟩ := putG_rel h (.of .sk) hp
            rw [show putG N o.dst skipV Γ' = some Γ1' from h1]
            exact runK_ref hE l h2 hK
        | true =>
          dsimp only
          refine bop_ref hE h _ fun v w hv => onG_ref hv fun v w hv => ?_
          cases hp : putGK N o.dst v Γ with
          | none => exact Ref.bad
          | some Γ1 =>
            obtain ⟨Γ1', h1, h2⟩ := putG_rel h hv hp
            rw [h1]
            exact runK_ref hE l h2 hK
theorem drawK_ref (hE : ER E E') (bf : List Nat) : ∀ (l : List Nat) {W : WatchK} {W' : Watch} (hW : WR W W') {Γ : List (Nat × V)} {Γ' : List (Nat × Value)} (h : GR Γ Γ') {K : List (Nat × V) → St} {K' : List (Nat × Value) → M Value} (hK : ∀ Γ1 Γ1', GR Γ1 Γ1' → Ref (K Γ1) (K' Γ1')), Ref (drawKK P G E N ops bf l W Γ K) (drawK P G E' N ops bf l W' Γ' K')
  | [], W, W', hW, Γ, Γ', h, K, K', hK => hK _ _ h
  | i :: l, W, W', hW, Γ, Γ', h, K, K', hK => by
    show Ref (match ops[i]? with
      | none => bad
      | some o => match gwantK ops Γ o with
        | none => bad
        | some false => chkKK (W.filter fun e => e.1 == i) (match putGK N o.dst .sk Γ with
          | some Γ' => drawKK P G E N ops bf l W Γ' K
          | none => bad)
        | some true => bopK P G E Γ o.op fun v => onGK (isG ops i) v fun v => chkKK (W.filter fun e => e.1 == i) (match putGK N o.dst v Γ with
          | some Γ' => drawKK P G E N ops bf l (W ++ watchK P G ops bf i Γ v l) Γ' K
          | none => bad)) _
    unfold drawK
    cases ops[i]? with
    | none => exact Ref.bad
    | some o =>
      dsimp only
      cases hg : gwantK ops Γ o with
      | none => exact Ref.bad
      | some b =>
        rw [gwant_rel h hg]
        cases b with
        | false =>
          dsimp only
          refine chkK_ref (hW.filter i) ?_
          cases hp : putGK N o.dst .sk Γ with
          | none => exact Ref.bad
          | some Γ1 =>
            obtain ⟨Γ1', h1, h2⟩ := putG_rel h (.of .sk) hp
            rw [show putG N o.dst skipV Γ' = some Γ1' from h1]
            exact drawK_ref hE bf l hW h2 hK
        | true =>
          dsimp only
          refine bop_ref hE h _ fun v w hv => onG_ref hv fun v w hv => chkK_ref (hW.filter i) ?_
          cases hp : putGK N o.dst v Γ with
          | none => exact Ref.bad
          | some Γ1 =>
            obtain ⟨Γ1', h1, h2⟩ := putG_rel h hv hp
            rw [h1]
            exact drawK_ref hE bf l (hW.append (watch_rel h hv l)) h2 hK
end
end Go.Fk
end
section
namespace Go.Fw

section
variable {c : Ctx} {Q : Exit → Act → World → Prop} {Γ : List (Nat × Value)} {m : M Value}

theorem rScope {x : Code} (h : OKc c x Γ m (Exit.noGoto Q)) : OKc c (.scope x) Γ m Q := fun _ _ _ _ _ e r xx l d => wp_scope_straight (h _ _ _ _ _ e r xx l d)
theorem xScN (h : OKq c Q .normal Γ m) : OKq c (Exit.noGoto Q) .normal Γ m := h
theorem xScX {id : Nat} (h : OKq c Q (.exit id) Γ m) : OKq c (Exit.noGoto Q) (.exit id) Γ m := h
theorem xScR (h : OKq c Q .ret Γ m) : OKq c (Exit.noGoto Q) .ret Γ m := h
end

end Go.Fw
end
section
set_option linter.unusedVariables false
namespace Go.Fw

inductive Ex where
  | normal
  | exit (i : Nat)
  | ret
def Ex.to : Ex → Exit
  | .normal => .normal
  | .exit i => .exit i
  | .ret => .ret

/-- A loop's rounds. -/
def loopK (body : List (Nat × Value) → (Ex → List (Nat × Value) → M Value) → M Value) (K : Ex → List (Nat × Value) → M Value) : Nat → List (Nat × Value) → M Value
  | 0, _ => fail
  | k + 1, Γ => body Γ fun e Γ' => match e with
    | .normal => loopK body K k Γ'
    | .exit i => K (.exit i) Γ'
    | .ret => K .ret Γ'

/-! ## A table of regions -/

end Go.Fw
end
section
set_option linter.unusedVariables false
namespace Go.Fk
open Go Go.Fw

inductive AC where
  | skip
  | label (l : Nat)
  | exit (i : Nat)
  | ret
  | reg (id : Nat) (out : List Nat)
  | drw (id : Nat) (ord out : List Nat)
  | seq (a b : AC)
  | join (ts : List Nat) (a b : AC)
  | cond (o : Operand) (a b : AC)
  | blk (i : Nat) (b : AC)
  | loop (ts : List Nat) (b : AC)
  | scope (b : AC)
  | sub (i : Nat)

/-- Pieces of code whose run is told elsewhere. -/
structure Sp where
  code : Nat → Code
  m : Nat → List (Nat × Value) → M (List (Nat × Value))
  k : Nat → List (Nat × V) → (List (Nat × V) → St) → St
  ex : Nat → Ex

def toC (ops : Nat → Array Oper) (sp : Nat → Code) : AC → Code
  | .skip => .skip
  | .label l => .label l
  | .exit i => .exit i
  | .ret => .ret
  | .reg id _ => .region id (ops id) false
  | .drw id _ _ => .region id (ops id) true
  | .seq a b => .seq (toC ops sp a) (toC ops sp b)
  | .join _ a b => .seq (toC ops sp a) (toC ops sp b)
  | .cond o a b => .cond o (toC ops sp a) (toC ops sp b)
  | .blk i b => .block i (toC ops sp b)
  | .loop _ b => .loop (toC ops sp b)
  | .scope b => .scope (toC ops sp b)
  | .sub i => sp i
def acOK (ops : Nat → Array Oper) : AC → Bool
  | .drw id ord _ => goodOrder (ops id) ord
  | .seq a b => acOK ops a && acOK ops b
  | .join _ a b => acOK ops a && acOK ops b
  | .cond _ a b => acOK ops a && acOK ops b
  | .blk _ b => acOK ops b
  | .loop _ b => acOK ops b
  | .scope b => acOK ops b
  | _ => true

/-! ## In the first machine -/

section
variable (P : Program) (G : Nat) (E : Fw.Env) (N : Nat) (ops : Nat → Array Oper) (sp : Sp) (F : Nat)

def mA : AC → List (Nat × Value) → (Ex → List (Nat × Value) → M Value) → M Value
  | .skip => fun Γ K => K .normal Γ
  | .label _ => fun Γ K => K .normal Γ
  | .exit i => fun Γ K => K (.exit i) Γ
  | .ret => fun Γ K => K .ret Γ
  | .reg id _ => fun Γ K => runK P G E N (ops id) (List.range (ops id).size) Γ fun Γ' => K .normal Γ'
  | .drw id ord _ => fun Γ K => drawK P G E N (ops id) (bef (ops id)) ord [] Γ fun Γ' => K .normal Γ'
  | .seq a b => fun Γ K => mA a Γ fun e Γ' => match e with
    | .normal => mA b Γ' K
    | .exit i => K (.exit i) Γ'
    | .ret => K .ret Γ'
  | .join _ a b => fun Γ K => mA a Γ fun e Γ' => match e with
    | .normal => mA b Γ' K
    | .exit i => K (.exit i) Γ'
    | .ret => K .ret Γ'
  | .cond o a b => fun Γ K => Fw.onB (ev G Γ o) (mA a Γ K) (mA b Γ K)
  | .blk i b => fun Γ K => mA b Γ fun e Γ' => match e with
    | .normal => K .normal Γ'
    | .exit j => if Nat.beq j i = true then K .normal Γ' else K (.exit j) Γ'
    | .ret => K .ret Γ'
  | .loop _ b => fun Γ K => loopK (mA b) K F Γ
  | .scope b => fun Γ K => mA b Γ K
  | .sub i => fun Γ K => bnd (sp.m i Γ) fun Γ' => K (sp.ex i) Γ'
end

/-- What is asked of the pieces that are told elsewhere. -/
def SpM (P : Program) (G N : Nat) (sp : Sp) : Prop := ∀ (i : Nat) (c : Ctx) (Q : Exit → Act → World → Prop) (Γ : List (Nat × Value)) (K : List (Nat × Value) → M Value), c.P = P → c.G = G → c.N = N → (∀ Γ', OKq c Q (Ex.to (sp.ex i)) Γ' (K Γ')) → OKc c (sp.code i) Γ (bnd (sp.m i Γ) K) Q

theorem OKq.id {c : Ctx} {Q : Exit → Act → World → Prop} {e : Exit} {Γ : List (Nat × Value)} {m : M Value} (h : OKq c Q e Γ m) (ts : List Nat) : OKq c Q e Γ m := h

theorem mA_ok {ops : Nat → Array Oper} {sp : Sp} {F : Nat} : ∀ (x : AC) (c : Ctx) (Q : Exit → Act → World → Prop) (Γ : List (Nat × Value)) (K : Ex → List (Nat × Value) → M Value), acOK ops x = true → c.P.follows .mixedOrders = true → EnvOK c.P c.G c.E → SpM c.P c.G c.N sp →
    (∀ e Γ', OKq c Q (Ex.to e) Γ' (K e Γ')) → OKc c (toC ops sp.code x) Γ (mA c.P c.G c.E c.N ops sp F x Γ K) Q
  | .skip, c, Q, Γ, K, _, hm, hE, hs, h => rSkip (h .normal Γ)
  | .label _, c, Q, Γ, K, _, hm, hE, hs, h => rLabel (h .normal Γ)
  | .exit i, c, Q, Γ, K, _, hm, hE, hs, h => rExit (h (.exit i) Γ)
  | .ret, c, Q, Γ, K, _, hm, hE, hs, h => rRet (h .ret Γ)
  | .reg id _, c, Q, Γ, K, _, hm, hE, hs, h => by
    intro n hh ρ w a e r x l d
    obtain ⟨Γ', n', h', e1, e2⟩ := runK_runL _ _ _ _ (show runK c.P c.G c.E c.N (ops id) (List.range (ops id).size) Γ (fun Γ' => K .normal Γ') n hh = _ from e)
    refine wp_region (runL_wpOps hE _ ρ hh w Γ Γ' a n n' h' r l e1 fun a' ρ' w' l' d' r' x' => ?_)
    exact (h .normal Γ') _ _ _ _ _ e2 r' (x.trans x') l' (d'.trans d)
  | .drw id C _, c, Q, Γ, K, hg, hm, hE, hs, h => by
    have hg : goodOrder (ops id) C = true := hg
    intro n hh ρ w a e r x l d
    have hnd : C.Pairwise (· ≠ ·) := by
      have := hg
      simp only [goodOrder, Bool.and_eq_true] at this
      exact (goodOrder_pairs this.2).imp fun h => h.1
    obtain ⟨β, ε, Γ2, n2, h2, hc, _, hrg, e2⟩ := drawK_crun C [] Γ n hh hnd (show drawK c.P c.G c.E c.N (ops id) (bef (ops id)) C [] Γ (fun Γ' => K .normal Γ') n hh = _ from e)
    refine draw_wp hm hE hg hrg hc r l fun a' ρ' w' l' d' r' x' => ?_
    exact (h .normal Γ2) _ _ _ _ _ e2 r' (x.trans x') l' (d'.trans d)
  | .seq a b, c, Q, Γ, K, hg, hm, hE, hs, h => by
    simp only [acOK, Bool.and_eq_true] at hg
    refine rSeq (mA_ok a c _ Γ _ hg.1 hm hE hs fun e Γ' => ?_)
    cases e with
    | normal => exact rThen (mA_ok b c Q Γ' K hg.2 hm hE hs h)
    | exit i => exact xThenX (h (.exit i) Γ')
    | ret => exact xThenR (h .ret Γ')
  | .join _ a b, c, Q, Γ, K, hg, hm, hE, hs, h => by
    simp only [acOK, Bool.and_eq_true] at hg
    refine rSeq (mA_ok a c _ Γ _ hg.1 hm hE hs fun e Γ' => ?_)
    cases e with
    | normal => exact rThen (mA_ok b c Q Γ' K hg.2 hm hE hs h)
    | exit i => exact xThenX (h (.exit i) Γ')
    | ret => exact xThenR (h .ret Γ')
  | .cond o a b, c, Q, Γ, K, hg, hm, hE, hs, h => by
    simp only [acOK, Bool.and_eq_true] at hg
    exact rCond _ _ rfl (mA_ok a c Q Γ K hg.1 hm hE hs h) (mA_ok b c Q Γ K hg.2 hm hE hs h)
  | .blk i b, c, Q, Γ, K, hg, hm, hE, hs, h => by
    refine rBlock (mA_ok b c _ Γ _ hg hm hE hs fun e Γ' => ?_)
    cases e with
    | normal => exact xBlockN (h .normal Γ')
    | exit j =>
      dsimp only
      split
      · rename_i hj
        have := Nat.eq_of_beq_eq_true hj
        subst this
        exact rOut (h .normal Γ')
      · rename_i hj
        exact rPast (Bool.eq_false_iff.2 hj) (h (.exit j) Γ')
    | ret => exact xBlockR (h .ret Γ')
  | .loop _ b, c, Q, Γ, K, hg, hm, hE, hs, h => by
    refine rLoop (fun s => s) (fun k s => loopK (mA c.P c.G c.E c.N ops sp F b) K k s) (fun s => rfl) (fun I hI k s => ?_) F Γ
    refine mA_ok b c _ s _ hg hm hE hs fun e Γ' => ?_
    cases e with
    | normal => exact hI k Γ'
    | exit i => exact xThenX (h (.exit i) Γ')
    | ret => exact xThenR (h .ret Γ')
  | .scope b, c, Q, Γ, K, hg, hm, hE, hs, h => by
    refine rScope (mA_ok b c _ Γ K hg hm hE hs fun e Γ' => ?_)
    cases e with
    | normal => exact xScN (h .normal Γ')
    | exit i => exact xScX (h (.exit i) Γ')
    | ret => exact xScR (h .ret Γ')
  | .sub i, c, Q, Γ, K, hg, hm, hE, hs, h => hs i c Q Γ _ rfl rfl rfl fun Γ' => h (sp.ex i) Γ'

/-! ## In the second -/

def FnV : List Nat → Type
  | [] => St
  | _ :: ts => V → FnV ts
noncomputable abbrev appV (ts : List Nat) (Γ : List (Nat × V)) (k : FnV ts) : St := @List.rec Nat (fun ts => FnV ts → St) (fun m => m) (fun t _ ih k => ih (k (lookK Γ t))) ts k
noncomputable def lamV (ts : List Nat) (acc : List (Nat × V)) (f : List (Nat × V) → St) : FnV ts := @List.rec Nat (fun ts => List (Nat × V) → FnV ts) (fun acc => f acc) (fun t _ ih acc => fun x => ih ((t, x) :: acc)) ts acc
noncomputable def badV : (ts : List Nat) → FnV ts
  | [] => bad
  | _ :: ts => fun _ => badV ts
noncomputable def cutAcc (ts : List Nat) (Γ acc : List (Nat × V)) : List (Nat × V) := @List.rec Nat (fun _ => List (Nat × V) → List (Nat × V)) (fun acc => acc) (fun t _ ih acc => ih ((t, lookK Γ t) :: acc)) ts acc
theorem appV_lamV : ∀ (ts : List Nat) (Γ acc : List (Nat × V)) (f : List (Nat × V) → St), appV ts Γ (lamV ts acc f) = f (cutAcc ts Γ acc)
  | [], _, _, _ => rfl
  | t :: ts, Γ, acc, f => appV_lamV ts Γ _ f
theorem appV_badV : ∀ (ts : List Nat) (Γ : List (Nat × V)), appV ts Γ (badV ts) = bad
  | [], _ => rfl
  | t :: ts, Γ => appV_badV ts Γ
theorem GR.cut {Γ : List (Nat × V)} {Γ' : List (Nat × Value)} (h : GR Γ Γ') : ∀ (ts : List Nat) (acc : List (Nat × V)), GR acc Γ' → GR (cutAcc ts Γ acc) Γ'
  | [], acc, ha => ha
  | t :: ts, acc, ha => GR.cut h ts ((t, lookK Γ t) :: acc) fun s => by
      rw [lookK_cons]
      split
      · rename_i e; subst e; exact h s
      · exact ha s

/-- A loop of so many rounds at the most. -/
noncomputable def lpK {α : Type} (z : α) (body : α → α) (n : Nat) : α := @Nat.rec (fun _ => α) z (fun _ ih => body ih) n
/-- What comes behind, told once. -/
def jn {α : Type} (b : α) (k : α → St) : St := k b

section
variable (P : Program) (G : Nat) (E : EnvK) (N : Nat) (ops : Nat → Array Oper) (sp : Sp) (F : Nat)

noncomputable abbrev kA (x : AC) (Γ : List (Nat × V)) (K : Ex → List (Nat × V) → St) : St := @AC.rec (fun _ => List (Nat × V) → (Ex → List (Nat × V) → St) → St)
  (fun Γ K => K .normal Γ)
  (fun _ Γ K => K .normal Γ)
  (fun i Γ K => K (.exit i) Γ)
  (fun Γ K => K .ret Γ)
  (fun id out Γ K => runKK P G E N (ops id) (List.range (ops id).size) Γ fun Γ' => K .normal (cutAcc out Γ' []))
  (fun id ord out Γ K => drawKK P G E N (ops id) (bef (ops id)) ord [] Γ fun Γ' => K .normal (cutAcc out Γ' []))
  (fun _ _ ia ib Γ K => ia Γ fun e Γ' => match e with
    | .normal => ib Γ' K
    | .exit i => K (.exit i) Γ'
    | .ret => K .ret Γ')
  (fun ts _ _ ia ib Γ K => jn (lamV ts [] fun Γ' => ib Γ' K) fun j => ia Γ fun e Γ' => match e with
    | .normal => appV ts Γ' j
    | .exit i => K (.exit i) Γ'
    | .ret => K .ret Γ')
  (fun o _ _ ia ib Γ K => onBt (evK G Γ o) (ia Γ K) (ib Γ K))
  (fun i _ ib Γ K => ib Γ fun e Γ' => match e with
    | .normal => K .normal Γ'
    | .exit j => if Nat.beq j i = true then K .normal Γ' else K (.exit j) Γ'
    | .ret => K .ret Γ')
  (fun ts _ ib Γ K => appV ts Γ (lpK (badV ts) (fun self => lamV ts [] fun Γ' => ib Γ' fun e Γ' => match e with
    | .normal => appV ts Γ' self
    | .exit i => K (.exit i) Γ'
    | .ret => K .ret Γ') F))
  (fun _ ib Γ K => ib Γ K)
  (fun i Γ K => sp.k i Γ fun Γ' => K (sp.ex i) Γ') x Γ K
end

def SpK (sp : Sp) : Prop := ∀ (i : Nat) (Γ : List (Nat × V)) (Γ' : List (Nat × Value)) (K : List (Nat × V) → St) (K' : List (Nat × Value) → M Value), GR Γ Γ' → (∀ Γ1 Γ1', GR Γ1 Γ1' → Ref (K Γ1) (K' Γ1')) → Ref (sp.k i Γ K) (bnd (sp.m i Γ') K')

theorem kA_ref {P : Program} {G : Nat} {E : EnvK} {E' : Fw.Env} {N : Nat} {ops : Nat → Array Oper} {sp : Sp} {F : Nat} (hE : ER E E') (hs : SpK sp) : ∀ (x : AC) {Γ : List (Nat × V)} {Γ' : List (Nat × Value)} (h : GR Γ Γ') {K : Ex → List (Nat × V) → St} {K' : Ex → List (Nat × Value) → M Value}
    (hK : ∀ e Γ1 Γ1', GR Γ1 Γ1' → Ref (K e Γ1) (K' e Γ1')), Ref (kA P G E N ops sp F x Γ K) (mA P G E' N ops sp F x Γ' K')
  | .skip, Γ, Γ', h, K, K', hK => hK .normal _ _ h
  | .label _, Γ, Γ', h, K, K', hK => hK .normal _ _ h
  | .exit i, Γ, Γ', h, K, K', hK => hK (.exit i) _ _ h
  | .ret, Γ, Γ', h, K, K', hK => hK .ret _ _ h
  | .reg id out, Γ, Γ', h, K, K', hK => runK_ref hE _ h fun Γ1 Γ1' h1 => hK .normal _ _ (h1.cut out [] (GR.nil _))
  | .drw id ord out, Γ, Γ', h, K, K', hK => drawK_ref hE _ _ .nil h fun Γ1 Γ1' h1 => hK .normal _ _ (h1.cut out [] (GR.nil _))
  | .seq a b, Γ, Γ', h, K, K', hK => by
    refine kA_ref hE hs a h fun e Γ1 Γ1' h1 => ?_
    cases e with
    | normal => exact kA_ref hE hs b h1 hK
    | exit i => exact hK (.exit i) _ _ h1
    | ret => exact hK .ret _ _ h1
  | .join ts a b, Γ, Γ', h, K, K', hK => by
    show Ref (kA P G E N ops sp F a Γ _) _
    refine kA_ref hE hs a h fun e Γ1 Γ1' h1 => ?_
    cases e with
    | normal =>
      show Ref (appV ts Γ1 (lamV ts [] fun Γ' => kA P G E N ops sp F b Γ' K)) (mA P G E' N ops sp F b Γ1' K')
      rw [appV_lamV]
      exact kA_ref hE hs b (h1.cut ts [] (GR.nil _)) hK
    | exit i => exact hK (.exit i) _ _ h1
    | ret => exact hK .ret _ _ h1
  | .cond o a b, Γ, Γ', h, K, K', hK => onB_ref (ev_rel h o) (kA_ref hE hs a h hK) (kA_ref hE hs b h hK)
  | .blk i b, Γ, Γ', h, K, K', hK => by
    refine kA_ref hE hs b h fun e Γ1 Γ1' h1 => ?_
    cases e with
    | normal => exact hK .normal _ _ h1
    | exit j =>
      dsimp only
      split
      · exact hK .normal _ _ h1
      · exact hK (.exit j) _ _ h1
    | ret => exact hK .ret _ _ h1
  | .loop ts b, Γ, Γ', h, K, K', hK => by
    show Ref (appV ts Γ (lpK (badV ts) _ F)) (loopK (mA P G E' N ops sp F b) K' F Γ')
    have key : ∀ k Γ Γ', GR Γ Γ' → Ref (appV ts Γ (lpK (badV ts) (fun self => lamV ts [] fun Γ' => kA P G E N ops sp F b Γ' fun e Γ' => match e with
        | .normal => appV ts Γ' self
        | .exit i => K (.exit i) Γ'
        | .ret => K .ret Γ') k)) (loopK (mA P G E' N ops sp F b) K' k Γ') := by
      intro k
      induction k with
      | zero =>
        intro Γ Γ' h
        show Ref (appV ts Γ (badV ts)) _
        rw [appV_badV]
        exact Ref.bad
      | succ k ih =>
        intro Γ Γ' h
        show Ref (appV ts Γ (lamV ts [] _)) _
        rw [appV_lamV]
        unfold loopK
        refine kA_ref hE hs b (h.cut ts [] (GR.nil _)) fun e Γ1 Γ1' h1 => ?_
        cases e with
        | normal => exact ih Γ1 Γ1' h1
        | exit i => exact hK (.exit i) _ _ h1
        | ret => exact hK .ret _ _ h1
    exact key F Γ Γ' h
  | .scope b, Γ, Γ', h, K, K', hK => kA_ref hE hs b h hK
  | .sub i, Γ, Γ', h, K, K', hK => hs i Γ Γ' _ _ h fun Γ1 Γ1' h1 => hK (sp.ex i) _ _ h1

/-! ## Results -/

noncomputable def stvK (x : V) (k : R) : R := @V.rec (fun _ => R) (.bad) (.bad) (fun _ => k) (fun _ => k) (fun _ _ => k) (fun _ => k) (fun _ _ => k) (k) (fun _ _ _ _ => k) (k) (.bad) (fun x r _ _ => .bad) (fun _ _ => k) (fun l _ => .bad) (fun _ => k) (k) (fun _ _ _ => k) (k) (fun _ _ _ => k) (k) (fun _ => k) x
theorem stvK_ok {x : V} {k : R} {v : V} {a : Ad} {t : T4} (h : stvK x k = .ok v a t) : stv (cv x) = true ∧ x ≠ .u ∧ k = .ok v a t := by cases x <;> first | exact ⟨rfl, by simp, h⟩ | cases h
noncomputable def stvL (xs : List V) (k : R) : R := @List.rec V (fun _ => R) k (fun x _ ih => stvK x ih) xs
theorem stvL_ok {k : R} {v : V} {a : Ad} {t : T4} : ∀ {xs : List V} {ws : List Value}, VL' xs ws → stvL xs k = .ok v a t → ws = xs.map cv ∧ ws.all stv = true ∧ k = .ok v a t
  | _, _, .nil, h => ⟨rfl, rfl, h⟩
  | _, _, .cons (a := x) (l₁ := xs) hx hs, h => by
    obtain ⟨h0, h1, h2⟩ := stvK_ok (show stvK x (stvL xs k) = _ from h)
    obtain ⟨h3, h4, h5⟩ := stvL_ok hs h2
    rw [hx.got h1]
    exact ⟨by rw [List.map_cons, h3], by simp [h0, h4], h5⟩
noncomputable def tupKK (vs : List V) (k : V → St) : St :=
  match vs with
  | [] => k .u
  | [v] => k v
  | vs => fun a t => stvL vs (k (.t (ofL vs)) a t)
theorem tupK_ref {vs : List V} {ws : List Value} (h : VL' vs ws) {K : V → St} {K' : Value → M Value} (hK : KR K K') : Ref (tupKK vs K) (bnd (tupK ws) K') := by
  match vs, ws, h with
  | [], [], .nil => exact hK _ _ (.u _)
  | [v], [w], .cons hv .nil => exact hK _ _ hv
  | v :: v2 :: vs, w :: w2 :: ws, h =>
    refine Ref.val hK fun a t x a' t' e => ?_
    obtain ⟨h1, h2, e⟩ := stvL_ok h e
    refine ⟨_, _, ?_, .of (.t (ofL (v :: v2 :: vs))), e⟩
    show (if (w :: w2 :: ws).all stv = true then ret (Value.tuple (w :: w2 :: ws).toArray) else fail) = ret (.tuple (cvL (ofL (v :: v2 :: vs))).toArray)
    rw [if_pos h2, cvL_ofL, h1]
section
variable (P : Program) (G : Nat) (E : EnvK)
noncomputable abbrev resKK (rs : List ResultVar) (Γ : List (Nat × V)) (K : List V → St) : St := @List.rec ResultVar (fun _ => (List V → St) → St) (fun K => K []) (fun r _ ih K => match r with
  | .tmp t => ih fun vs => K (lookK Γ t :: vs)
  | .cell a t => kop P G E Γ (.load t (.tmp a)) fun v => ih fun vs => K (v :: vs)) rs K
noncomputable abbrev retKK (rs : List ResultVar) (Γ : List (Nat × V)) (k : V → St) : St := resKK P G E rs Γ fun vs => tupKK vs k
end
theorem resK_ref {P : Program} {G : Nat} {E : EnvK} {E' : Fw.Env} (hE : ER E E') : ∀ (rs : List ResultVar) {Γ : List (Nat × V)} {Γ' : List (Nat × Value)} (h : GR Γ Γ') {K : List V → St} {K' : List Value → M Value} (hK : ∀ vs ws, VL' vs ws → Ref (K vs) (K' ws)), Ref (resKK P G E rs Γ K) (resK P G E' rs Γ' K')
  | [], Γ, Γ', h, K, K', hK => hK _ _ .nil
  | .tmp t :: r, Γ, Γ', h, K, K', hK => resK_ref hE r h fun vs ws hv => hK _ _ (.cons (h t) hv)
  | .cell a t :: r, Γ, Γ', h, K, K', hK => by
    show Ref (kop P G E Γ (.load t (.tmp a)) fun v => resKK P G E r Γ fun vs => K (v :: vs)) (bnd (aop P G E' Γ' (.load t (.tmp a))) fun v => resK P G E' r Γ' fun vs => K' (v :: vs))
    exact kop_ref hE h _ fun v w hv => resK_ref hE r h fun vs ws hvs => hK _ _ (.cons hv hvs)
theorem bnd_resK {P : Program} {G : Nat} {E : Fw.Env} {K' : Value → M Value} : ∀ (rs : List ResultVar) (Γ : List (Nat × Value)) (K : List Value → M Value), bnd (resK P G E rs Γ K) K' = resK P G E rs Γ fun vs => bnd (K vs) K'
  | [], Γ, K => rfl
  | .tmp t :: r, Γ, K => bnd_resK r Γ _
  | .cell a t :: r, Γ, K => by
    show bnd (bnd _ _) K' = bnd _ _
    rw [bnd_assoc]
    congr 1
    funext v
    exact bnd_resK r Γ _
theorem retK_ref {P : Program} {G : Nat} {E : EnvK} {E' : Fw.Env} (hE : ER E E') (rs : List ResultVar) {Γ : List (Nat × V)} {Γ' : List (Nat × Value)} (h : GR Γ Γ') {K : V → St} {K' : Value → M Value} (hK : KR K K') : Ref (retKK P G E rs Γ K) (bnd (retK P G E' rs Γ') K') := by
  unfold retK
  rw [bnd_resK]
  exact resK_ref hE rs h fun vs ws hv => tupK_ref hv hK

/-! ## A function -/

def args0K : Nat → List V → List (Nat × V)
  | _, [] => []
  | i, v :: r => (i, v) :: args0K (i + 1) r
theorem args0_rel : ∀ (vs : List V) (ws : List Value) (i : Nat), VL' vs ws → GR (args0K i vs) (args0 i ws)
  | _, _, i, .nil => GR.nil _
  | _, _, i, .cons hv hs => (args0_rel _ _ (i + 1) hs).cons i hv

section
variable (P : Program) (G : Nat) (fn : Func) (sp : Sp) (F : Nat) (x : AC)
def mFun (E : Fw.Env) (args : List Value) : M Value :=
  if args.length ≤ fn.ntmps then mA P G E fn.ntmps (opsOf fn) sp F x (args0 0 args) fun e Γ => match e with
    | .normal => retK P G E fn.results.toList Γ
    | .ret => retK P G E fn.results.toList Γ
    | .exit _ => fail
  else fail
noncomputable abbrev kFun (E : EnvK) (args : List V) (K : V → St) : St :=
  kA P G E fn.ntmps (opsOf fn) sp F x (args0K 0 args) fun e Γ => match e with
    | .normal => retKK P G E fn.results.toList Γ K
    | .ret => retKK P G E fn.results.toList Γ K
    | .exit _ => bad
end

/-- What comes behind a run of the first machine, pushed into it. -/
theorem bnd_onB {v : Value} {t f : M Value} {K' : Value → M Value} : bnd (Fw.onB v t f) K' = Fw.onB v (bnd t K') (bnd f K') := by
  unfold Fw.onB; split <;> rfl
theorem bnd_onG {g : Bool} {v : Value} {k : Value → M Value} {K' : Value → M Value} : bnd (onG g v k) K' = onG g v fun v => bnd (k v) K' := by
  unfold onG; split
  · exact bnd_onB
  · rfl
theorem bnd_bop {P : Program} {G : Nat} {E : Fw.Env} {Γ : List (Nat × Value)} {op : Op} {k : Value → M Value} {K' : Value → M Value} : bnd (bop P G E Γ op k) K' = bop P G E Γ op fun v => bnd (k v) K' := by
  unfold bop; split
  · rfl
  · rfl
  · exact bnd_onB
  · exact bnd_assoc _ _ _
theorem bnd_chkK {m : M Value} {K' : Value → M Value} : ∀ W : Watch, bnd (chkK W m) K' = chkK W (bnd m K')
  | [] => rfl
  | (_, ag, x, v) :: r => by
    show bnd (bnd _ _) K' = bnd _ _
    rw [bnd_assoc]
    congr 1
    funext _
    exact bnd_chkK r
theorem bnd_runK {P : Program} {G : Nat} {E : Fw.Env} {N : Nat} {ops : Array Oper} {K' : Value → M Value} : ∀ (l : List Nat) (Γ : List (Nat × Value)) (K : List (Nat × Value) → M Value), bnd (runK P G E N ops l Γ K) K' = runK P G E N ops l Γ fun Γ => bnd (K Γ) K'
  | [], Γ, K => rfl
  | i :: l, Γ, K => by
    unfold runK
    cases ops[i]? with
    | none => rfl
    | some o =>
      dsimp only
      cases gwant ops Γ o with
      | none => rfl
      | some b =>
        cases b with
        | false =>
          dsimp only
          cases putG N o.dst skipV Γ with
          | none => rfl
          | some Γ1 => exact bnd_runK l Γ1 K
        | true =>
          dsimp only
          rw [bnd_bop]
          congr 1
          funext v
          rw [bnd_onG]
          congr 1
          funext v
          cases putG N o.dst v Γ with
          | none => rfl
          | some Γ1 => exact bnd_runK l Γ1 K
theorem bnd_drawK {P : Program} {G : Nat} {E : Fw.Env} {N : Nat} {ops : Array Oper} {bf : List Nat} {K' : Value → M Value} : ∀ (l : List Nat) (W : Watch) (Γ : List (Nat × Value)) (K : List (Nat × Value) → M Value), bnd (drawK P G E N ops bf l W Γ K) K' = drawK P G E N ops bf l W Γ fun Γ => bnd (K Γ) K'
  | [], W, Γ, K => rfl
  | i :: l, W, Γ, K => by
    unfold drawK
    cases ops[i]? with
    | none => rfl
    | some o =>
      dsimp only
      cases gwant ops Γ o with
      | none => rfl
      | some b =>
        cases b with
        | false =>
          dsimp only
          rw [bnd_chkK]
          congr 1
          cases putG N o.dst skipV Γ with
          | none => rfl
          | some Γ1 => exact bnd_drawK l W Γ1 K
        | true =>
          dsimp only
          rw [bnd_bop]
          congr 1
          funext v
          rw [bnd_onG]
          congr 1
          funext v
          rw [bnd_chkK]
          congr 1
          cases putG N o.dst v Γ with
          | none => rfl
          | some Γ1 => exact bnd_drawK l _ Γ1 K
theorem bnd_mA {P : Program} {G : Nat} {E : Fw.Env} {N : Nat} {ops : Nat → Array Oper} {sp : Sp} {F : Nat} {K' : Value → M Value} : ∀ (x : AC) (Γ : List (Nat × Value)) (K : Ex → List (Nat × Value) → M Value), bnd (mA P G E N ops sp F x Γ K) K' = mA P G E N ops sp F x Γ fun e Γ => bnd (K e Γ) K'
  | .skip, Γ, K => rfl
  | .label _, Γ, K => rfl
  | .exit i, Γ, K => rfl
  | .ret, Γ, K => rfl
  | .reg id _, Γ, K => bnd_runK _ _ _
  | .drw id _ _, Γ, K => bnd_drawK _ _ _ _
  | .seq a b, Γ, K => by
    show bnd (mA P G E N ops sp F a Γ _) K' = mA P G E N ops sp F a Γ _
    rw [bnd_mA a]
    congr 1
    funext e Γ1
    cases e with
    | normal => exact bnd_mA b Γ1 K
    | exit i => rfl
    | ret => rfl
  | .join _ a b, Γ, K => by
    show bnd (mA P G E N ops sp F a Γ _) K' = mA P G E N ops sp F a Γ _
    rw [bnd_mA a]
    congr 1
    funext e Γ1
    cases e with
    | normal => exact bnd_mA b Γ1 K
    | exit i => rfl
    | ret => rfl
  | .cond o a b, Γ, K => by
    show bnd (Fw.onB _ _ _) K' = Fw.onB _ _ _
    rw [bnd_onB, bnd_mA a, bnd_mA b]
  | .blk i b, Γ, K => by
    show bnd (mA P G E N ops sp F b Γ _) K' = mA P G E N ops sp F b Γ _
    rw [bnd_mA b]
    congr 1
    funext e Γ1
    cases e with
    | normal => rfl
    | exit j => dsimp only; split <;> rfl
    | ret => rfl
  | .loop _ b, Γ, K => by
    show bnd (loopK (mA P G E N ops sp F b) K F Γ) K' = loopK (mA P G E N ops sp F b) _ F Γ
    have key : ∀ k Γ, bnd (loopK (mA P G E N ops sp F b) K k Γ) K' = loopK (mA P G E N ops sp F b) (fun e Γ => bnd (K e Γ) K') k Γ := by
      intro k
      induction k with
      | zero => intro Γ; rfl
      | succ k ih =>
        intro Γ
        unfold loopK
        rw [bnd_mA b]
        congr 1
        funext e Γ1
        cases e with
        | normal => exact ih Γ1
        | exit i => rfl
        | ret => rfl
    exact key F Γ
  | .scope b, Γ, K => bnd_mA b Γ K
  | .sub i, Γ, K => bnd_assoc _ _ _

theorem kFun_ref {P : Program} {G : Nat} {fn : Func} {sp : Sp} {F : Nat} {x : AC} {E : EnvK} {E' : Fw.Env} (hE : ER E E') (hs : SpK sp) {vs : List V} {ws : List Value} (h : VL' vs ws) (hl : ws.length ≤ fn.ntmps) {K : V → St} {K' : Value → M Value} (hK : KR K K') :
    Ref (kFun P G fn sp F x E vs K) (bnd (mFun P G fn sp F x E' ws) K') := by
  unfold mFun
  rw [if_pos hl, bnd_mA]
  refine kA_ref hE hs x (args0_rel _ _ 0 h) fun e Γ1 Γ1' h1 => ?_
  cases e with
  | normal => exact retK_ref hE _ h1 hK
  | exit i => exact Ref.bad
  | ret => exact retK_ref hE _ h1 hK

/-! ## Functions by their arguments, one by one -/

def KFn : Nat → Type
  | 0 => (V → St) → St
  | n + 1 => V → KFn n
noncomputable def apN : (n : Nat) → KFn n → KF
  | 0, f, [], K => f K
  | n + 1, f, x :: xs, K => apN n (f x) xs K
  | _, _, _, _ => bad
def EqN : (n : Nat) → KFn n → KF → Prop
  | 0, f, g => ∀ K, f K = g [] K
  | n + 1, f, g => ∀ x, EqN n (f x) fun xs => g (x :: xs)
noncomputable def badN : (n : Nat) → KFn n
  | 0 => fun _ => bad
  | n + 1 => fun _ => badN n
theorem EqN.at_ : ∀ {n : Nat} {f : KFn n} {g : KF} (h : EqN n f g) (xs : List V) (K : V → St), apN n f xs K = bad ∨ (xs.length = n ∧ apN n f xs K = g xs K)
  | 0, f, g, h, [], K => .inr ⟨rfl, h K⟩
  | 0, f, g, h, x :: xs, K => .inl rfl
  | n + 1, f, g, h, [], K => .inl rfl
  | n + 1, f, g, h, x :: xs, K => by
    rcases EqN.at_ (h x) xs K with e | ⟨e1, e2⟩
    · exact .inl e
    · exact .inr ⟨by simp [e1], e2⟩
theorem apN_badN : ∀ (n : Nat) (xs : List V) (K : V → St), apN n (badN n) xs K = bad
  | 0, [], K => rfl
  | 0, x :: xs, K => rfl
  | n + 1, [], K => rfl
  | n + 1, x :: xs, K => apN_badN n xs K

/-- A function of the program does what one of the second machine says. -/
def FR (P : Program) (G : Nat) (f : FuncId) (fl : KF) : Prop := ∃ m, Sim P G f m ∧ CRef fl m
def EFR (P : Program) (G : Nat) (E : EnvK) : Prop := ∀ g fl, E g = some fl → FR P G g fl
def envK : List (FuncId × KF) → EnvK
  | [], _ => none
  | (g, m) :: r, f => if f = g then some m else envK r f
theorem EFR.nil {P : Program} {G : Nat} : EFR P G (envK []) := fun _ _ h => by cases h
theorem EFR.cons {P : Program} {G : Nat} {g : FuncId} {m : KF} {r : List (FuncId × KF)} (h : FR P G g m) (hr : EFR P G (envK r)) : EFR P G (envK ((g, m) :: r)) := by
  intro f m' hf
  unfold envK at hf
  split at hf
  · rename_i e; subst e; cases hf; exact h
  · exact hr f m' hf
theorem EFR.split {P : Program} {G : Nat} {E : EnvK} (h : EFR P G E) : ∃ E', EnvOK P G E' ∧ ER E E' := by
  classical
  refine ⟨fun g => if hg : ∃ fl, E g = some fl then some (Classical.choose (h g _ hg.choose_spec)) else none, fun g m hm => ?_, fun g fl hg => ?_⟩
  · dsimp only at hm
    split at hm
    · rename_i hg
      cases hm
      exact (Classical.choose_spec (h g _ hg.choose_spec)).1
    · cases hm
  · have hex : ∃ fl, E g = some fl := ⟨fl, hg⟩
    dsimp only
    rw [dif_pos hex]
    refine ⟨_, rfl, ?_⟩
    have e1 : hex.choose = fl := Option.some.inj (hex.choose_spec.symm.trans hg)
    have key : ∀ (q : KF) (hq : E g = some q), q = fl → CRef fl (Classical.choose (h g q hq)) := by
      rintro q hq rfl
      exact (Classical.choose_spec (h g q hq)).2
    exact key _ hex.choose_spec e1

def noSp : Sp := ⟨fun _ => .skip, fun _ Γ => ret Γ, fun _ Γ K => K Γ, fun _ => .normal⟩
theorem noSpM {P : Program} {G N : Nat} : SpM P G N noSp := fun i c Q Γ K _ _ _ h => rSkip (h Γ)
theorem noSpK : SpK noSp := fun i Γ Γ' K K' h hK => hK _ _ h

theorem VL'.len {vs : List V} {ws : List Value} (h : VL' vs ws) : vs.length = ws.length := by
  induction h with
  | nil => rfl
  | cons _ _ ih => simp [ih]

theorem FR.of_body {P : Program} {G : Nat} {f : FuncId} {fn : Func} {sp : Sp} {F : Nat} {x : AC} {E : EnvK} {n : Nat} {fs : KFn n} (hf : P.funcs[f]? = some fn) (hb : fn.body = some (toC (opsOf fn) sp.code x)) (hcall : ∀ (args : Array Value) (w : World), (callFunc f args).run P w = .ok (.enter f args) w)
    (hm : P.follows .mixedOrders = true) (hok : acOK (opsOf fn) x = true) (hn : Nat.ble n fn.ntmps = true) (hE : EFR P G E) (hs : SpM P G fn.ntmps sp) (hs2 : SpK sp) (heq : EqN n fs (kFun P G fn sp F x E)) : FR P G f (apN n fs) := by
  obtain ⟨E', hE1, hE2⟩ := hE.split
  refine ⟨mFun P G fn sp F x E', Sim.of_body (E := E') hf hb hcall (fun args hl => if_neg (by omega)) (fun args ρ h w z => ?_), fun vs ws K K' hv hK => ?_⟩
  · unfold mFun
    split
    · refine mA_ok x ⟨P, G, E', fn.ntmps, ρ, h, w, z⟩ _ _ _ hok hm hE1 hs fun e Γ' => ?_
      cases e with
      | normal => exact rDone (.inl rfl) rfl
      | ret => exact rDone (.inr rfl) rfl
      | exit i => exact qFail
    · exact rFail
  · rcases heq.at_ vs K with e | ⟨hl, e⟩
    · rw [e]; exact Ref.bad
    · rw [e]
      exact kFun_ref hE2 hs2 hv (by rw [← hv.len, hl]; exact Nat.le_of_ble_eq_true hn) hK
theorem FR.none {P : Program} {G : Nat} {f : FuncId} {n : Nat} (hcall : ∀ (args : Array Value) (w : World), (callFunc f args).run P w = .ok (.enter f args) w) : FR P G f (apN n (badN n)) :=
  ⟨fun _ => fail, Sim.of_fail hcall fun _ => rfl, fun vs ws K K' hv hK => by rw [apN_badN]; exact Ref.bad⟩
/-- A function that calls itself: by how deep it may. -/
noncomputable def itN (n : Nat) (fs : KFn n → KFn n) (k : Nat) : KFn n := @Nat.rec (fun _ => KFn n) (badN n) (fun _ ih => fs ih) k
theorem FR.of_rec {P : Program} {G : Nat} {f : FuncId} {n : Nat} {fs : KFn n → KFn n} (hcall : ∀ (args : Array Value) (w : World), (callFunc f args).run P w = .ok (.enter f args) w) (h : ∀ r, FR P G f (apN n r) → FR P G f (apN n (fs r))) : ∀ k, FR P G f (apN n (itN n fs k))
  | 0 => FR.none hcall
  | k + 1 => h _ (FR.of_rec hcall h k)

/-! ## The end of a run -/

/-- A value, but for a mark. -/
noncomputable def nsk : V → R → R := @V.rec (fun _ => R → R) (fun k => k) (fun _ => .bad) (fun _ k => k) (fun _ k => k) (fun _ _ k => k) (fun _ k => k) (fun _ _ k => k) (fun k => k) (fun _ _ _ _ k => k) (fun k => k) (fun k => k) (fun _ _ _ _ k => k) (fun _ _ k => k) (fun _ _ k => k) (fun _ k => k) (fun k => k) (fun _ _ _ k => k) (fun k => k) (fun _ _ _ k => k) (fun k => k) (fun _ k => k)
theorem nsk_ok {x : V} {k : R} {v : V} {a : Ad} {t : T4} (h : nsk x k = .ok v a t) : x ≠ .sk ∧ k = .ok v a t := by cases x <;> first | exact ⟨by simp, h⟩ | cases h
noncomputable def fin : V → St := fun v a t => nsk v (.ok v a t)
theorem fin_ref : KR fin fun v => ret v := fun v w hv a t n h hr v' a' t' e => by
  obtain ⟨h0, e⟩ := nsk_ok e
  cases e
  exact ⟨w, n, h, rfl, .inl ⟨h0, hv⟩, .inl hr⟩
/-- The end of a run that is to come to true: always the same, so that the kernel need not keep what it met on its way there. -/
abbrev yesR : R := .ok .sk ⟨.d0, .d0, .d0, .d0⟩ z4
noncomputable def finT : V → St := fun v _ _ => on_b v fun x => @Bool.rec (fun _ => R) .bad yesR x
theorem finT_ref : KR finT fun v => ret v := fun v w hv a t n h hr v' a' t' e => by
  obtain ⟨x, rfl, e⟩ := on_b_ok e
  cases x with
  | false => cases e
  | true => cases e; exact ⟨w, n, h, rfl, .inr ⟨rfl, hv.got (by simp)⟩, .inr rfl⟩
theorem VF.yes {w : Value} (h : VF .sk w) : w = .bool true := h.elim (fun q => absurd rfl q.1) And.right
end Go.Fk
end
section
set_option linter.unusedVariables false
namespace Go.Fw

/-- The blocks below G, all of them dead. -/
def deads : Nat → H
  | 0 => .leaf
  | g + 1 => (deads g).set g dead
theorem deads_get : ∀ (G b : Nat), (deads G).get b = if b < G then some dead else none
  | 0, b => by simp [deads, H.get]
  | g + 1, b => by
    unfold deads
    rw [H.get_set, deads_get g b]
    by_cases h : b = g
    · subst h; rw [if_pos rfl, if_pos (by omega)]
    · rw [if_neg h]
      by_cases h2 : b < g
      · rw [if_pos h2, if_pos (by omega)]
      · rw [if_neg h2, if_neg (by omega)]

/-- A value without an address, or a closure that holds nothing. -/
def plainA : Value → Bool
  | .func (.func _) fi cs => fi.toList.isEmpty && cs.toList.isEmpty
  | v => okC0 v
theorem plainA_VR {ρ : Map} {v : Value} (h : plainA v = true) : VR ρ v v := by
  unfold plainA at h
  split at h
  · rename_i f fi cs
    simp only [Bool.and_eq_true, List.isEmpty_iff, Array.toList_eq_nil_iff] at h
    obtain ⟨rfl, rfl⟩ := h
    exact .func _ _ _ rfl (by simp)
  · exact VR.of_okC0 h
theorem VR.same_of_okC0 {ρ : Map} {v v' : Value} (h : VR ρ v v') (h0 : okC0 v = true) : v' = v := by
  cases h <;> first | rfl | simp [okC0] at h0
theorem VR.same_of_plainA {ρ : Map} {v v' : Value} (h : VR ρ v v') (h0 : plainA v = true) : v' = v := by
  cases h with
  | func fn cs cs' hs hv =>
    unfold plainA at h0
    split at h0
    · rename_i f fi cs2 heq
      simp only [Bool.and_eq_true, List.isEmpty_iff, Array.toList_eq_nil_iff] at h0
      cases heq
      have h1 := h0.2
      subst h1
      have : cs' = #[] := Array.eq_empty_of_size_eq_zero (by rw [← hs]; rfl)
      subst this
      rfl
    · cases h0
  | _ => first | rfl | simp [plainA, okC0] at h0
theorem plainA_one {v : Value} (h : plainA v = true) : one v = true := by
  cases v <;> first | rfl | simp [plainA, okC0] at h

/-- What a run beside the heap gives, as it is seen from the heap. -/
def gcV (G b : Nat) (v : Value) : Value :=
  match v with
  | .slice (some ⟨c, 0, none⟩) l k => if c = G then .slice (some ⟨b, 0, none⟩) l k else undef
  | .slice none 0 0 => .slice none 0 0
  | _ => undef

def gcF (G : Nat) (m : List Value → M Value) (args : List Value) : Nat → H → Option (Value × Nat × H) := fun n h =>
  match args with
  | .slice (some ⟨b, 0, none⟩) len cap :: rest =>
    match h.get b with
    | some B =>
      if (B.kind = .own ∨ B.kind = .grow) ∧ B.cells.all okC0 = true ∧ rest.all plainA = true ∧ G ≤ b then
        match (m (.slice (some ⟨G, 0, none⟩) len cap :: rest)).run (G + 1) ((deads G).set G B) with
        | some (v, _, S) => match S.get G with
          | some C => if C.kind = B.kind ∧ C.cells.all okC0 = true then some (gcV G b v, n, h.set b C) else none
          | none => none
        | none => none
      else none
    | none => none
  | .slice none 0 0 :: rest =>
    if rest.all plainA = true then
      match (m (.slice none 0 0 :: rest)).run G (deads G) with
      | some (v, _, _) => some (gcV G G (if v.cells.toList.all okC0 then v else undef), n, h)
      | none => none
    else none
  | _ => none

theorem gcF_local (G : Nat) (m : List Value → M Value) (args : List Value) : Local (gcF G m args) := by
  unfold gcF
  split
  · rename_i b len cap rest
    refine Local.turn _ fun n h a n' h' e => ?_
    cases hb : h.get b with
    | none => simp only [hb] at e; cases e
    | some B =>
      simp only [hb] at e
      split at e
      · rename_i hc
        cases hm : (m (.slice (some ⟨G, 0, none⟩) len cap :: rest)).run (G + 1) ((deads G).set G B) with
        | none => simp only [hm] at e; cases e
        | some z =>
          obtain ⟨v, q, S⟩ := z
          simp only [hm] at e
          cases hS : S.get G with
          | none => simp only [hS] at e; cases e
          | some C =>
            simp only [hS] at e
            split at e
            · rename_i hC
              simp only [Option.some.injEq, Prod.mk.injEq] at e
              obtain ⟨rfl, rfl, rfl⟩ := e
              refine ⟨rfl, b, C, by rw [hb]; rfl, rfl, fun k hk => ?_⟩
              rw [hk, hb]
              dsimp only
              rw [if_pos hc]
              simp only [hm, hS]
              rw [if_pos hC]
            · cases e
      · cases e
  · rename_i rest
    by_cases hr : rest.all plainA = true
    · cases hm : (m (.slice none 0 0 :: rest)).run G (deads G) with
      | none => simp only [hr, if_true]; exact Local.nothing
      | some z =>
        obtain ⟨v, q, S⟩ := z
        simp only [hr, if_true]
        exact Local.same _
    · simp only [hr, if_false, Bool.false_eq_true]
      exact Local.nothing
  · exact Local.nothing

def gcM (G : Nat) (m : List Value → M Value) (args : List Value) : M Value := ⟨gcF G m args, gcF_local G m args⟩

theorem WL.plain {ρ ρ' : Map} {vs vs' : List Value} (h : WL ρ vs vs') (hp : vs.all plainA = true) : WL ρ' vs vs' := by
  refine ⟨h.1, fun i v v' hv hv' => ?_⟩
  have hpv := List.all_eq_true.1 hp v (List.mem_of_getElem? hv)
  have := (h.2 i v v' hv hv').strict (plainA_one hpv)
  rw [this.same_of_plainA hpv]
  exact (plainA_VR hpv).weak

theorem not_isMap_dead : ¬ Blk.isMap dead := fun h => by cases h.2
theorem not_mine_dead : ¬ Blk.mine dead := fun h => by rcases h with h | h <;> cases h
theorem not_live_dead : ¬ Blk.live dead := fun h => h rfl

theorem gc_sim {P : Program} {G : Nat} {f : FuncId} {m : List Value → M Value} (hS : Sim P G f m) : Sim P G f (gcM G m) := by
  refine ⟨hS.enter, fun args n h v n' h' e ρ w args' r ha => ?_⟩
  replace e : gcF G m args n h = some (v, n', h') := e
  unfold gcF at e
  split at e
  · rename_i b len cap rest
    cases hb : h.get b with
    | none => simp only [hb] at e; cases e
    | some B =>
    simp only [hb] at e
    split at e
    case isFalse => cases e
    rename_i hc
    obtain ⟨hk, hcs, hrest, hGb⟩ := hc
    cases hm : (m (.slice (some ⟨G, 0, none⟩) len cap :: rest)).run (G + 1) ((deads G).set G B) with
    | none => simp only [hm] at e; cases e
    | some z =>
    obtain ⟨u, q, S⟩ := z
    simp only [hm] at e
    cases hSG : S.get G with
    | none => simp only [hSG] at e; cases e
    | some C =>
    simp only [hSG] at e
    split at e
    case isFalse => cases e
    rename_i hC
    obtain ⟨hCk, hCcs⟩ := hC
    simp only [Option.some.injEq, Prod.mk.injEq] at e
    obtain ⟨rfl, rfl, rfl⟩ := e
    have hmine : B.mine := hk
    have hlive : B.live := hmine.live
    obtain ⟨L, hL⟩ : ∃ L, ρ b = some L := by
      have := r.dom b
      rw [hb] at this
      cases hq : ρ b with
      | none => rw [hq] at this; cases this
      | some L => exact ⟨L, rfl⟩
    let ρS : Map := fun c => if c = G then some L else if c < G then ρ c else none
    have hρSG : ρS G = some L := if_pos rfl
    have getS : ∀ c, ((deads G).set G B).get c = if c = G then some B else if c < G then some dead else none := fun c => by rw [H.get_set, deads_get]
    have onlyG : ∀ c X, ((deads G).set G B).get c = some X → X.live → c = G ∧ X = B := by
      intro c X hX hl
      rw [getS] at hX
      split at hX
      · rename_i ec; cases hX; exact ⟨ec, rfl⟩
      · split at hX
        · cases hX; exact absurd hl not_live_dead
        · cases hX
    have noMap : ∀ c X, ((deads G).set G B).get c = some X → ¬ X.isMap := by
      intro c X hX hmX
      rw [getS] at hX
      split at hX
      · cases hX; rcases hk with hk | hk <;> (have := hmX.1; rw [hk] at this; cases this)
      · split at hX
        · cases hX; exact not_isMap_dead hmX
        · cases hX
    have rS : R G ρS ((deads G).set G B) w := by
      refine ⟨fun c => ?_, fun g hg => ?_, fun c X M hX hl hM => ?_, fun c d X Y M N hne hX hY hlX hmY hM hN => ?_, fun c X M hX hmX hM => absurd hmX (noMap c X hX), fun c d X Y M N hne hX hY hmX hmY hM hN => absurd hmX (noMap c X hX)⟩
      · rw [getS]
        show _ = (if c = G then some L else if c < G then ρ c else none).isSome
        split
        · rfl
        · split
          · rename_i hlt
            obtain ⟨lim, hg⟩ := r.glob c hlt
            rw [hg]; rfl
          · rfl
      · obtain ⟨lim, hgl⟩ := r.glob g hg
        exact ⟨lim, by show (if g = G then some L else if g < G then ρ g else none) = _; rw [if_neg (by omega), if_pos hg, hgl]⟩
      · obtain ⟨rfl, rfl⟩ := onlyG c X hX hl
        rw [hρSG] at hM
        cases hM
        obtain ⟨⟨arr, elem, fz, h1, h2, h3, h4⟩, h5, h6⟩ := r.blk b X L hb hlive hL
        refine ⟨⟨arr, elem, fz, h1, h2, h3, fun i v hv => ?_⟩, h5, h6⟩
        obtain ⟨v', h7, h8⟩ := h4 i v hv
        have hp := List.all_eq_true.1 hcs v (List.mem_of_getElem? hv)
        have := h8.same_of_okC0 hp
        subst this
        exact ⟨_, h7, VR.of_okC0 hp⟩
      · have h1 := onlyG c X hX hlX
        have h2 := onlyG d Y hY hmY.live
        exact absurd (h1.1.trans h2.1.symm) hne
    obtain ⟨x', xs', rfl, hx, hxs⟩ := ha.head
    obtain ⟨_, _, L', a', c', hbe, hL', rfl, hSL⟩ := hx.slice_inv
    cases hbe
    rw [hL] at hL'
    cases hL'
    have hargs : WL ρS (.slice (some ⟨G, 0, none⟩) len cap :: rest) (.slice (some a') len c' :: xs') := WL.cons (VR.weak (.slice G 0 len cap a' c' L hρSG hSL)) (hxs.plain hrest)
    refine (hS.calls _ _ _ _ _ _ hm ρS w _ rS hargs).mono fun en w' hen => ?_
    obtain ⟨v', ρ1, rfl, hv, hR, hx⟩ := hen
    have hρ1G : ρ1 G = some L := hx.le _ _ hρSG
    have noOwn : ∀ k, Own ρS ((deads G).set G B) k → k = L.blk := by
      rintro k ⟨c, X, M, hX, ho, hM, rfl⟩
      rcases ho with ho | ho
      · obtain ⟨rfl, rfl⟩ := onlyG c X hX ho.live
        rw [hρSG] at hM
        cases hM; rfl
      · exact absurd ho (noMap c X hX)
    have keep : ∀ k, k < w.heap.size → k ≠ L.blk → w'.heap[k]? = w.heap[k]? := fun k hk hne => hx.frame k hk fun ho => hne (noOwn k ho)
    have hCmine : C.mine := by unfold Blk.mine; rw [hCk]; exact hmine
    refine ⟨v', ρ, rfl, ?_, ?_, ?_⟩
    · unfold gcV
      split
      · rename_i c l k
        split
        · rename_i hcG
          subst hcG
          obtain ⟨_, _, L2, a2, c2, he, hL2, rfl, hSL2⟩ := hv.slice_inv
          cases he
          rw [hρ1G] at hL2
          cases hL2
          exact VR.weak (.slice b 0 l k a2 c2 L hL hSL2)
        · exact .inl (.inl rfl)
      · obtain ⟨_, _, rfl⟩ := hv.nilslice_inv
        exact VR.weak .nilslice
      · exact .inl (.inl rfl)
    · refine ⟨fun c => ?_, r.glob, fun c X M hX hl hM => ?_, fun c d X Y M N hne hX hY hlX hmY hM hN => ?_, fun c X M hX hmX hM => ?_, fun c d X Y M N hne hX hY hmX hmY hM hN => ?_⟩
      · rw [H.get_set]
        split
        · rename_i ec; subst ec; rw [← r.dom, hb]; rfl
        · exact r.dom c
      · rw [H.get_set] at hX
        split at hX
        · rename_i ec
          subst ec
          cases hX
          rw [hL] at hM
          cases hM
          obtain ⟨⟨arr, elem, fz, h1, h2, h3, h4⟩, h5, h6⟩ := hR.blk G C L hSG hl hρ1G
          refine ⟨⟨arr, elem, fz, h1, h2, h3, fun i v hv => ?_⟩, h5, h6⟩
          obtain ⟨v', h7, h8⟩ := h4 i v hv
          have hp := List.all_eq_true.1 hCcs v (List.mem_of_getElem? hv)
          have := h8.same_of_okC0 hp
          subst this
          exact ⟨_, h7, VR.of_okC0 hp⟩
        · rename_i ec
          obtain ⟨⟨arr, elem, fz, h1, h2, h3, h4⟩, h5, h6⟩ := r.blk c X M hX hl hM
          have hlt := r.blk_lt hX hl hM
          have hne := r.apart c b X B M L ec hX hb hl hmine hM hL
          exact ⟨⟨arr, elem, fz, by rw [keep _ hlt hne]; exact h1, h2, h3, h4⟩, h5, h6⟩
      · have old : ∀ {c0 : Nat} {X0 : Blk}, (h.set b C).get c0 = some X0 → ∃ Y, h.get c0 = some Y ∧ Y.kind = X0.kind := by
          intro c0 X0 hX0
          rw [H.get_set] at hX0
          split at hX0
          · rename_i ec; subst ec; simp only [Option.some.injEq] at hX0; subst hX0; exact ⟨B, hb, hCk.symm⟩
          · exact ⟨X0, hX0, rfl⟩
        obtain ⟨X0, hX0, hXk⟩ := old hX
        obtain ⟨Y0, hY0, hYk⟩ := old hY
        exact r.apart c d X0 Y0 M N hne hX0 hY0 (by simpa [Blk.live, hXk] using hlX) (by simpa [Blk.mine, hYk] using hmY) hM hN
      · rw [H.get_set] at hX
        split at hX
        · cases hX
          exfalso
          have := hmX.1
          rw [hCk] at this
          rcases hk with hk | hk <;> (rw [hk] at this; cases this)
        · have hmo := r.maps c X M hX hmX hM
          refine hmo.keep (Le.refl _) (keep _ hmo.lt fun ek => ?_)
          obtain ⟨⟨arr, elem, fz, h1, _⟩, _⟩ := r.blk b B L hb hlive hL
          exact hmo.no (by rw [ek]; exact h1)
      · rw [H.get_set] at hX hY
        split at hX
        · cases hX
          exfalso
          have := hmX.1
          rw [hCk] at this
          rcases hk with hk | hk <;> (rw [hk] at this; cases this)
        · split at hY
          · cases hY
            exfalso
            have := hmY.1
            rw [hCk] at this
            rcases hk with hk | hk <;> (rw [hk] at this; cases this)
          · exact r.lone c d X Y M N hne hX hY hmX hmY hM hN
    · refine ⟨Le.refl _, hx.os, hx.tape, hx.output, hx.size, fun k hk hno => keep k hk fun ek => hno ⟨b, B, L, hb, .inl hmine, hL, ek.symm⟩, fun k hk ho => ?_⟩
      obtain ⟨c, X, M, hX, ho, hM, hMk⟩ := ho
      rw [H.get_set] at hX
      split at hX
      · rename_i ec; subst ec; exact ⟨c, B, M, hb, .inl hmine, hM, hMk⟩
      · exact ⟨c, X, M, hX, ho, hM, hMk⟩
  · rename_i rest
    split at e
    case isFalse => cases e
    rename_i hrest
    cases hm : (m (.slice none 0 0 :: rest)).run G (deads G) with
    | none => simp only [hm] at e; cases e
    | some z =>
    obtain ⟨u, q, S⟩ := z
    simp only [hm, Option.some.injEq, Prod.mk.injEq] at e
    obtain ⟨rfl, rfl, rfl⟩ := e
    let ρS : Map := fun c => if c < G then ρ c else none
    have allDead : ∀ c X, (deads G).get c = some X → X = dead := by
      intro c X hX
      rw [deads_get] at hX
      split at hX
      · cases hX; rfl
      · cases hX
    have rS : R G ρS (deads G) w := by
      refine ⟨fun c => ?_, fun g hg => ?_, fun c X M hX hl hM => ?_, fun c d X Y M N hne hX hY hlX hmY hM hN => ?_, fun c X M hX hmX hM => ?_, fun c d X Y M N hne hX hY hmX hmY hM hN => ?_⟩
      · rw [deads_get]
        show _ = (if c < G then ρ c else none).isSome
        split
        · rename_i hlt
          obtain ⟨lim, hg⟩ := r.glob c hlt
          rw [hg]; rfl
        · rfl
      · obtain ⟨lim, hgl⟩ := r.glob g hg
        exact ⟨lim, by show (if g < G then ρ g else none) = _; rw [if_pos hg, hgl]⟩
      · rw [allDead c X hX] at hl; exact absurd hl not_live_dead
      · rw [allDead c X hX] at hlX; exact absurd hlX not_live_dead
      · rw [allDead c X hX] at hmX; exact absurd hmX not_isMap_dead
      · rw [allDead c X hX] at hmX; exact absurd hmX not_isMap_dead
    obtain ⟨x', xs', rfl, hx, hxs⟩ := ha.head
    obtain ⟨_, _, rfl⟩ := hx.nilslice_inv
    have hargs : WL ρS (.slice none 0 0 :: rest) (.slice none 0 0 :: xs') := WL.cons (VR.weak .nilslice) (hxs.plain hrest)
    refine (hS.calls _ _ _ _ _ _ hm ρS w _ rS hargs).mono fun en w' hen => ?_
    obtain ⟨v', ρ1, rfl, hv, hR, hx⟩ := hen
    have noOwn : ∀ k, ¬ Own ρS (deads G) k := by
      rintro k ⟨c, X, M, hX, ho, hM, rfl⟩
      rw [allDead c X hX] at ho
      rcases ho with ho | ho
      · exact not_mine_dead ho
      · exact not_isMap_dead ho
    have keep : ∀ k, k < w.heap.size → w'.heap[k]? = w.heap[k]? := fun k hk => hx.frame k hk (noOwn k)
    refine ⟨v', ρ, rfl, ?_, ?_, ?_⟩
    · have hz : ∀ z : Value, VW ρ1 z v' → VW ρ (gcV G G (if z.cells.toList.all okC0 then z else undef)) v' := by
        intro z hz
        split
        · rename_i hp
          unfold gcV
          split
          · exact absurd hp (by simp [Value.cells, okC0])
          · obtain ⟨_, _, rfl⟩ := hz.nilslice_inv
            exact VR.weak .nilslice
          · exact .inl (.inl rfl)
        · exact .inl (.inl rfl)
      exact hz u hv
    · refine ⟨r.dom, r.glob, fun c X M hX hl hM => ?_, r.apart, fun c X M hX hmX hM => ?_, r.lone⟩
      · obtain ⟨⟨arr, elem, fz, h1, h2, h3, h4⟩, h5, h6⟩ := r.blk c X M hX hl hM
        exact ⟨⟨arr, elem, fz, by rw [keep _ (r.blk_lt hX hl hM)]; exact h1, h2, h3, h4⟩, h5, h6⟩
      · have hmo := r.maps c X M hX hmX hM
        exact hmo.keep (Le.refl _) (keep _ hmo.lt)
    · exact ⟨Le.refl _, hx.os, hx.tape, hx.output, hx.size, fun k hk _ => keep k hk, fun k _ ho => ho⟩
  · cases e

end Go.Fw
end
section
set_option linter.unusedVariables false
namespace Go.Fw
open Go.ChangeMaps (setBlock)

/-! ## Less is known of a heap -/

/-- Some blocks are looked at no more. -/
def Weak (h h2 : H) : Prop := ∀ b, h2.get b = h.get b ∨ ((h.get b).isSome = true ∧ h2.get b = some dead)
theorem Weak.refl (h : H) : Weak h h := fun b => .inl rfl
theorem Weak.of {h h2 : H} (k : Weak h h2) {b : Nat} {B : Blk} (hb : h2.get b = some B) (hn : B ≠ dead) : h.get b = some B := by
  rcases k b with e | ⟨_, e⟩
  · rw [← e]; exact hb
  · rw [hb] at e; cases e; exact absurd rfl hn
theorem live_ne {B : Blk} (h : B.live) : B ≠ dead := by rintro rfl; exact h rfl
theorem isMap_ne {B : Blk} (h : B.isMap) : B ≠ dead := by rintro rfl; exact not_isMap_dead h
theorem ours_ne {B : Blk} (h : B.ours) : B ≠ dead := by rcases h with h | h; exact live_ne h.live; exact isMap_ne h
theorem R.weak {G : Nat} {ρ : Map} {h h2 : H} {w : World} (r : R G ρ h w) (k : Weak h h2) : R G ρ h2 w := by
  refine ⟨fun b => ?_, r.glob, fun b B L hb hl hL => r.blk b B L (k.of hb (live_ne hl)) hl hL, fun b c B C L M hne hb hc hl hm hL hM => r.apart b c B C L M hne (k.of hb (live_ne hl)) (k.of hc (live_ne hm.live)) hl hm hL hM,
    fun b B L hb hm hL => r.maps b B L (k.of hb (isMap_ne hm)) hm hL, fun b c B C L M hne hb hc h1 h2 hL hM => r.lone b c B C L M hne (k.of hb (isMap_ne h1)) (k.of hc (isMap_ne h2)) h1 h2 hL hM⟩
  rw [← r.dom]
  rcases k b with e | ⟨e1, e2⟩
  · rw [e]
  · rw [e1, e2]; rfl
theorem Ext.weak {ρ : Map} {h h2 : H} {w : World} (k : Weak h h2) : Ext ρ h w ρ h2 w :=
  ⟨Le.refl _, rfl, rfl, rfl, Nat.le_refl _, fun _ _ _ => rfl, fun j _ ⟨b, B, L, hb, ho, hL, hj⟩ => ⟨b, B, L, k.of hb (ours_ne ho), ho, hL, hj⟩⟩


end Go.Fw
end
section
set_option linter.unusedVariables false
namespace Go.Fw
open Go.Fk (AC toC mA mA_ok SpM Sp acOK)

theorem loop_rule {P : Program} {Q : Exit → Act → World → Prop} {body : Code} (I : Nat → Act → World → Prop) (h0 : ∀ a w, ¬ I 0 a w) (hb : ∀ k a w, I (k + 1) a w → body.wp P (Exit.then (fun a w => I k a w) Q) a w) :
    ∀ k a w, I k a w → (Code.loop body).wp P Q a w := by
  intro F a w hF b' k' cs
  have key : ∀ k a w, I k a w → ∃ e a' w', Q e a' w' ∧ Arrives P (lone (b'.at a (.code body :: .inLoop body :: k')) cs w) b' k' cs e a' w' := by
    intro k
    induction k with
    | zero => intro a w h; exact absurd h (h0 a w)
    | succ k ih =>
      intro a w h
      obtain ⟨e, a₁, w₁, hq, harr⟩ := hb k a w h b' (.inLoop body :: k') cs
      cases e with
      | normal =>
        obtain ⟨e₂, a₂, w₂, hq₂, harr₂⟩ := ih a₁ w₁ hq
        exact ⟨e₂, a₂, w₂, hq₂, .of_steps (Steps.trans harr (.one step_inLoop)) harr₂⟩
      | exit id => exact ⟨_, a₁, w₁, hq, .pass (x := .inLoop body) rfl (fun _ _ => .inl (by simp)) harr⟩
      | goto l => exact ⟨_, a₁, w₁, hq, .pass (x := .inLoop body) rfl (fun _ _ => .inl (by simp)) harr⟩
      | ret => exact ⟨_, a₁, w₁, hq, .pass (x := .inLoop body) rfl (fun _ _ => .inl (by simp)) harr⟩
      | panic ch => exact ⟨_, a₁, w₁, hq, .pass (x := .inLoop body) rfl (fun _ _ => .inl (by simp)) harr⟩
      | outgrown => exact ⟨_, a₁, w₁, hq, .pass (x := .inLoop body) rfl (fun _ _ => .inl (by simp)) harr⟩
  obtain ⟨e, a', w', hq, harr⟩ := key F a w hF
  exact ⟨e, a', w', hq, .of_steps (.one step_loop) harr⟩

theorem wpOp_value {P : Program} {ops : Array Oper} {Q : Exit → Act → World → Prop} {i : Nat} {o : Oper} {K : Act → World → Prop} {a : Act} {w w' : World} {v : Value} (ho : ops[i]? = some o) (hg : o.guard = none)
    (hr : (execOp a.eval o).run P w = .ok (.value v) w') (hK : K (a.put o.dst v) w') : wpOp P ops Q i K a w := by
  unfold wpOp
  rw [ho]
  dsimp only
  have hw : Region.wanted o (yielded ops a.tmps) = true := by unfold Region.wanted; rw [hg]
  rw [if_pos hw]
  left
  unfold Oper.wp
  rw [hr]
  exact hK

/-- Some blocks are looked at no more. -/
def deadR (bs : List Nat) (h : H) : H := bs.foldl (fun h b => if (h.get b).isSome then h.set b dead else h) h
theorem Weak.trans {a b c : H} (h : Weak a b) (k : Weak b c) : Weak a c := fun x => by
  rcases k x with e | ⟨e1, e2⟩
  · rcases h x with f | ⟨f1, f2⟩
    · exact .inl (e.trans f)
    · exact .inr ⟨f1, e.trans f2⟩
  · refine .inr ⟨?_, e2⟩
    rcases h x with f | ⟨f1, f2⟩
    · rw [← f]; exact e1
    · exact f1
theorem deadR_weak : ∀ (bs : List Nat) (h : H), Weak h (deadR bs h)
  | [], h => Weak.refl h
  | b :: bs, h => by
    show Weak h (deadR bs (if (h.get b).isSome then h.set b dead else h))
    refine Weak.trans ?_ (deadR_weak bs _)
    split
    · rename_i hs
      intro x
      rw [H.get_set]
      split
      · rename_i e; subst e; exact .inr ⟨hs, rfl⟩
      · exact .inl rfl
    · exact Weak.refl h
theorem deadR_get : ∀ (bs : List Nat) (h : H) (x : Nat), (deadR bs h).get x = if x ∈ bs ∧ (h.get x).isSome = true then some dead else h.get x
  | [], h, x => by simp [deadR]
  | b :: bs, h, x => by
    show (deadR bs (if (h.get b).isSome then h.set b dead else h)).get x = _
    rw [deadR_get bs]
    have hg : (if (h.get b).isSome then h.set b dead else h).get x = if x = b ∧ (h.get x).isSome = true then some dead else h.get x := by
      split
      · rename_i hs
        rw [H.get_set]
        by_cases e : x = b
        · subst e; rw [if_pos rfl, if_pos ⟨rfl, hs⟩]
        · rw [if_neg e, if_neg (fun q => e q.1)]
      · rename_i hs
        rw [if_neg]
        rintro ⟨rfl, hq⟩; exact hs hq
    rw [hg]
    by_cases e : x = b
    · subst e
      by_cases hs : (h.get x).isSome = true
      · simp [hs]
      · simp [hs]
    · simp [e]

/-- Rounds of a walk, in an order. -/
inductive Rounds (good : List Value → Prop) (body : Value → Value → List Value → M Value) (clean : Nat → Nat → H → H) (i m sz cl : Nat) (bs : List Nat) : List Nat → List Nat → List Value → Nat → H → List Value → Nat → H → Prop where
  | nil {seen : List Nat} {s : List Value} {n : Nat} {h : H} : Rounds good body clean i m sz cl bs [] seen s n h s n h
  | cons {t : Nat} {π seen : List Nat} {s : List Value} {n : Nat} {h : H} {E E2 : List (Value × Value × Nat)} {k v : Value} {vs : Array Value} {n1 n' : Nat} {h1 h' : H} {s' : List Value} :
      h.get m = some (mapB sz cl E) → (k, v, t) ∈ E → (body k v s).run n (h.set i (iterB m cl cl (seen ++ [t]))) = some (.tuple vs, n1, h1) →
      (clean n n1 h1).get i = some (iterB m cl cl (seen ++ [t])) → (clean n n1 h1).get m = some (mapB sz cl E2) → borns E2 = bs → good vs.toList →
      Rounds good body clean i m sz cl bs π (seen ++ [t]) vs.toList n1 (clean n n1 h1) s' n' h' → Rounds good body clean i m sz cl bs (t :: π) seen s n h s' n' h'

/-- What is fixed of a loop over a map. -/
structure Walk where
  P : Program
  G : Nat
  E : Env
  N : Nat
  ops1 : Array Oper
  ops2 : Array Oper
  rest : AC
  opsR : Nat → Array Oper
  sp : Sp
  F : Nat
  B : Nat
  B1 : Nat
  r1 : Nat
  r2 : Nat
  ti : Nat
  tn : Nat
  tok : Nat
  te : Nat
  ts : List Nat
  clean : Nat → Nat → H → H

namespace Walk
variable (x : Walk)
def code : Code := .block x.B (.loop (.seq (.region x.r1 x.ops1 false) (.seq (.cond (.tmp x.tok) .skip (.exit x.B)) (.block x.B1 (.seq (.region x.r2 x.ops2 false) (toC x.opsR x.sp.code x.rest))))))
def Γs (s : List Value) : List (Nat × Value) := x.ts.zip s
def tail : List Nat := (List.range x.ops2.size).drop 1
def body (k v : Value) (s : List Value) : M Value :=
  bnd (runL x.P x.G x.E x.N x.ops2 x.tail ((x.te, .tuple #[k, v]) :: (x.tok, .bool true) :: (x.tn, undef) :: x.Γs s)) fun Γ2 =>
    mA x.P x.G x.E x.N x.opsR x.sp x.F x.rest Γ2 fun e Γ3 => match e with
      | .normal => ret (.tuple (x.ts.map (look Γ3)).toArray)
      | _ => fail
structure OK : Prop where
  hE : EnvOK x.P x.G x.E
  hm : x.P.follows .mixedOrders = true
  hs : SpM x.P x.G x.N x.sp
  ha : acOK x.opsR x.rest = true
  hw : ∀ n n1 h, Weak h (x.clean n n1 h)
  o0 : ∃ o, x.ops1[0]? = some o ∧ o.op = .next (.tmp x.ti) false ∧ o.dst = some x.tn ∧ o.guard = none
  o1 : ∃ o, x.ops1[1]? = some o ∧ o.op = .extract (.tmp x.tn) 0 ∧ o.dst = some x.tok ∧ o.guard = none
  sz1 : x.ops1.size = 2
  o2 : ∃ o, x.ops2[0]? = some o ∧ o.op = .entry (.tmp x.ti) ∧ o.dst = some x.te ∧ o.guard = none
  ntn : x.tn < x.N
  ntok : x.tok < x.N
  nte : x.te < x.N
  d1 : x.tn ≠ x.tok
  d2 : x.ti ≠ x.tn
  d3 : x.ti ≠ x.tok
  m1 : x.tn ∉ x.ts
  m2 : x.tok ∉ x.ts
end Walk

/-- A round, told at a stretch. -/
def Walk.bodyK (x : Walk) (k v : Value) (s : List Value) : M Value :=
  runK x.P x.G x.E x.N x.ops2 x.tail ((x.te, .tuple #[k, v]) :: (x.tok, .bool true) :: (x.tn, undef) :: x.Γs s) fun Γ2 =>
    mA x.P x.G x.E x.N x.opsR x.sp x.F x.rest Γ2 fun e Γ3 => match e with
      | .normal => ret (.tuple (x.ts.map (look Γ3)).toArray)
      | _ => fail
theorem Walk.bodyK_body (x : Walk) {k v : Value} {s : List Value} {n : Nat} {h : H} {r : Value × Nat × H} (e : x.bodyK k v s n h = some r) : x.body k v s n h = some r := by
  unfold Walk.bodyK at e
  obtain ⟨Γ2, n2, h2, e1, e2⟩ := runK_runL _ _ _ _ e
  unfold Walk.body
  rw [bnd_of e1]
  exact e2

theorem mapB_inj {sz c c' : Nat} {sz' : Nat} {E E' : List (Value × Value × Nat)} (h : mapB sz c E = mapB sz' c' E') : E = E' := by
  unfold mapB at h
  simp only [Blk.mk.injEq, List.cons.injEq, Value.int.injEq, true_and, and_true] at h
  exact flatE_inj h.2.2

theorem born_uniq {E : List (Value × Value × Nat)} (hnd : (borns E).Nodup) {k v k' v' : Value} {t : Nat} (h : (k, v, t) ∈ E) (h' : (k', v', t) ∈ E) : k = k' ∧ v = v' := by
  induction E with
  | nil => cases h
  | cons p E ih =>
    unfold borns at hnd
    rw [List.map_cons, List.nodup_cons] at hnd
    rcases List.mem_cons.1 h with e | h1 <;> rcases List.mem_cons.1 h' with e' | h2
    · rw [← e] at e'; cases e'; exact ⟨rfl, rfl⟩
    · exfalso; apply hnd.1; rw [← e]; exact List.mem_map.2 ⟨_, h2, rfl⟩
    · exfalso; apply hnd.1; rw [← e']; exact List.mem_map.2 ⟨_, h1, rfl⟩
    · exact ih hnd.2 h1 h2

theorem Live.lookup {ρ : Map} {N : Nat} {Γ : List (Nat × Value)} {a : Act} (l : Live ρ N Γ a) (t : Nat) : VW ρ (look Γ t) (a.eval (.tmp t)) := l.at_ t

theorem look_zip : ∀ (ts : List Nat) (s : List Value) (t : Nat), t ∉ ts → look (ts.zip s) t = undef
  | [], _, _, _ => rfl
  | _ :: _, [], _, _ => rfl
  | a :: ts, v :: s, t, h => by
    simp only [List.zip_cons_cons, look]
    rw [if_neg (fun e => h (by rw [e]; exact List.mem_cons_self ..))]
    exact look_zip ts s t fun q => h (List.mem_cons_of_mem _ q)
theorem live_skip {ρ : Map} {N : Nat} {Γ : List (Nat × Value)} {a : Act} (l : Live ρ N Γ a) {d : Nat} (hd : look Γ d = undef) (v : Value) : Live ρ N Γ (a.put (Option.some d) v) := by
  refine ⟨by simp [Act.put, l.size], fun t => ?_⟩
  by_cases e : t = d
  · subst e; rw [hd]; exact .inl (.inl rfl)
  · have := l.at_ t
    simp only [Act.put]
    rw [Array.getD_eq_getD_getElem?] at this ⊢
    rw [Array.getElem?_setIfInBounds_ne (Ne.symm e)]
    exact this
theorem zip_map_look (ts : List Nat) (Γ : List (Nat × Value)) : ts.zip (ts.map (look Γ)) = ts.map fun t => (t, look Γ t) := by
  induction ts with
  | nil => rfl
  | cons t ts ih => rw [List.map_cons, List.zip_cons_cons, ih]; rfl
theorem range_cons {n : Nat} (h : 0 < n) : List.range n = 0 :: (List.range n).drop 1 := by
  cases n with
  | zero => omega
  | succ n => rw [List.range_succ_eq_map]; rfl

/-- THE LOOP. -/
theorem walk_ok {x : Walk} (hx : x.OK) {c : Ctx} (hP : c.P = x.P) (hG : c.G = x.G) (hN : c.N = x.N) {Q : Exit → Act → World → Prop} {i m sz cl : Nat} {Li : Loc} (hoff : Li.off = 0) {bs : List Nat} (hnd : bs.Nodup) (hlt : ∀ t, t ∈ bs → t < cl)
    (Fin : List Value → Nat → H → Prop)
    (hend : ∀ s n h ρ w a, Fin s n h → R c.G ρ h w → Ext c.ρ c.h c.w ρ h w → Live ρ c.N (x.Γs s) a → a.defers = [] → Q .normal a w)
    {rem seen : List Nat} {s : List Value} {n : Nat} {h : H} {ρ : Map} {w : World} {a : Act} {E : List (Value × Value × Nat)}
    (hi : h.get i = some (iterB m cl cl seen)) (hmp : h.get m = some (mapB sz cl E)) (hb : borns E = bs) (hL : ρ i = some Li) (hti : look (x.Γs s) x.ti = .pointer (some ⟨i, 0, none⟩))
    (h1 : ∀ t, t ∈ bs → t ∈ seen ∨ t ∈ rem) (h2 : ∀ t, t ∈ rem → t ∈ bs ∧ t ∉ seen) (h3 : rem.Nodup)
    (hrun : ∀ π, π.Perm rem → ∃ s' n' h', Rounds (fun s => look (x.Γs s) x.ti = .pointer (some ⟨i, 0, none⟩)) x.body x.clean i m sz cl bs π seen s n h s' n' h' ∧ Fin s' n' h')
    (r : R c.G ρ h w) (ex : Ext c.ρ c.h c.w ρ h w) (lv : Live ρ c.N (x.Γs s) a) (hd : a.defers = []) : x.code.wp c.P Q a w := by
  obtain ⟨cP, cG, cE, cN, cρ, ch, cw, cz⟩ := c
  dsimp only at hP hG hN
  subst hP hG hN
  refine wp_block ?_
  let I : Nat → Act → World → Prop := fun k a w => ∃ (rem seen : List Nat) (s : List Value) (n : Nat) (h : H) (ρ : Map) (E : List (Value × Value × Nat)),
    h.get i = some (iterB m cl cl seen) ∧ h.get m = some (mapB sz cl E) ∧ borns E = bs ∧ ρ i = some Li ∧ look (x.Γs s) x.ti = .pointer (some ⟨i, 0, none⟩) ∧
    (∀ t, t ∈ bs → t ∈ seen ∨ t ∈ rem) ∧ (∀ t, t ∈ rem → t ∈ bs ∧ t ∉ seen) ∧ rem.Nodup ∧ (∀ π, π.Perm rem → ∃ s' n' h', Rounds (fun s => look (x.Γs s) x.ti = .pointer (some ⟨i, 0, none⟩)) x.body x.clean i m sz cl bs π seen s n h s' n' h' ∧ Fin s' n' h') ∧
    R x.G ρ h w ∧ Ext cρ ch cw ρ h w ∧ Live ρ x.N (x.Γs s) a ∧ a.defers = [] ∧ rem.length < k
  refine loop_rule I (fun a w ⟨rem, _, _, _, _, _, _, _, _, _, _, _, _, _, _, _, _, _, _, _, hk⟩ => by omega) ?_ (rem.length + 1) a w ⟨rem, seen, s, n, h, ρ, E, hi, hmp, hb, hL, hti, h1, h2, h3, hrun, r, ex, lv, hd, by omega⟩
  clear hi hmp hb hL hti h1 h2 h3 hrun r ex lv hd
  clear rem seen s n h ρ w a E
  rintro k a w ⟨rem, seen, s, n, h, ρ, E, hi, hmp, hb, hL, hti, h1, h2, h3, hrun, r, ex, lv, hd, hk⟩
  obtain ⟨o0, ho0, hop0, hdst0, hg0⟩ := hx.o0
  obtain ⟨o1, ho1, hop1, hdst1, hg1⟩ := hx.o1
  obtain ⟨o2, ho2, hop2, hdst2, hg2⟩ := hx.o2
  have hold : ∀ p, p ∈ E → p.2.2 < cl := fun p hp => hlt _ (hb ▸ List.mem_map.2 ⟨p, hp, rfl⟩)
  have hev : a.eval (.tmp x.ti) = .pointer (some ⟨Li.blk, 0, none⟩) := by
    have := lv.lookup x.ti
    rw [hti] at this
    obtain ⟨b, o, L, he, hLb, hv⟩ := this.ptr_inv
    cases he
    rw [hL] at hLb
    cases hLb
    rw [hoff] at hv
    exact hv
  refine wp_seq (wp_region ?_)
  rw [hx.sz1]
  show wpOps _ _ _ [0, 1] _ _
  rw [wpOps_cons]
  rcases next_sim (P := x.P) r hi hmp hL hoff hold (Nat.le_refl _) o0.type with ⟨hall, hr⟩ | ⟨k0, v0, t, v', w', hmem, hns, hr, r', ex', ⟨p1, p2, rfl⟩, _⟩
  · -- the end
    have hrem : rem = [] := by
      cases rem with
      | nil => rfl
      | cons t _ => exact absurd (hall t (hb ▸ (h2 t (List.mem_cons_self ..)).1)) (h2 t (List.mem_cons_self ..)).2
    subst hrem
    refine wpOp_value ho0 hg0 (v := .tuple #[.bool false]) (w' := w) (by simp [execOp, hop0, hev, hr]) ?_
    rw [hdst0, wpOps_cons]
    have l1 : Live ρ x.N ((x.tn, .tuple #[.bool false]) :: x.Γs s) (a.put (some x.tn) (.tuple #[.bool false])) := lv.put hx.ntn (VR.weak (.tuple _ _ rfl fun j u u' hu hu' => by
      match j, hu, hu' with
      | 0, hu, hu' => cases hu; cases hu'; exact .bool _
      | j + 1, hu, hu' => simp at hu))
    have hev1 : (a.put (some x.tn) (.tuple #[.bool false])).eval (.tmp x.tn) = .tuple #[.bool false] := by
      show (a.tmps.setIfInBounds x.tn _).getD x.tn undef = _
      have : x.tn < a.tmps.size := by rw [lv.size]; exact hx.ntn
      simp [this]
    refine wpOp_value ho1 hg1 (v := .bool false) (w' := w) (by simp [execOp, hop1, hev1, Instr.extract]) ?_
    rw [hdst1]
    have l2 := l1.put (d := x.tok) hx.ntok (v := .bool false) (v' := .bool false) (VR.bool _).weak
    show (Code.seq (.cond (.tmp x.tok) .skip (.exit x.B)) _).wp x.P _ _ _
    refine wp_seq ?_
    have hev2 : ((a.put (some x.tn) (.tuple #[.bool false])).put (some x.tok) (.bool false)).eval (.tmp x.tok) = .bool false := by
      have := l2.lookup x.tok
      simp only [look, if_true] at this
      exact this.bool_inv
    refine wp_cond_false hev2 (wp_exit ?_)
    show (if x.B = x.B then _ else _)
    rw [if_pos rfl]
    obtain ⟨s', n', h', hro, hfin⟩ := hrun [] (List.Perm.refl _)
    cases hro
    have l3 := live_skip (live_skip lv (look_zip x.ts s x.tn hx.m1) (.tuple #[.bool false])) (look_zip x.ts s x.tok hx.m2) (.bool false)
    exact hend _ _ _ _ _ _ hfin r ex l3 hd
  · -- a round
    have tup : VW ρ undef (.tuple #[.bool true, p1, p2]) := .inl (.inl rfl)
    refine wpOp_value ho0 hg0 (v := .tuple #[.bool true, p1, p2]) (w' := w') (by simp [execOp, hop0, hev, hr]) ?_
    rw [hdst0, wpOps_cons]
    have l1 : Live ρ x.N ((x.tn, undef) :: x.Γs s) (a.put (some x.tn) (.tuple #[.bool true, p1, p2])) := lv.put hx.ntn tup
    have hev1 : (a.put (some x.tn) (.tuple #[.bool true, p1, p2])).eval (.tmp x.tn) = .tuple #[.bool true, p1, p2] := by
      show (a.tmps.setIfInBounds x.tn _).getD x.tn undef = _
      have : x.tn < a.tmps.size := by rw [lv.size]; exact hx.ntn
      simp [this]
    refine wpOp_value ho1 hg1 (v := .bool true) (w' := w') (by simp [execOp, hop1, hev1, Instr.extract]) ?_
    rw [hdst1]
    have l2 := l1.put (d := x.tok) hx.ntok (v := .bool true) (v' := .bool true) (VR.bool _).weak
    show (Code.seq (.cond (.tmp x.tok) .skip (.exit x.B)) _).wp x.P _ _ _
    refine wp_seq ?_
    have hev2 : ((a.put (some x.tn) (.tuple #[.bool true, p1, p2])).put (some x.tok) (.bool true)).eval (.tmp x.tok) = .bool true := by
      have := l2.lookup x.tok
      simp only [look, if_true] at this
      exact this.bool_inv
    refine wp_cond_true hev2 (wp_skip ?_)
    show (Code.block x.B1 _).wp x.P _ _ _
    refine wp_block (wp_seq (wp_region ?_))
    have hsz2 : 0 < x.ops2.size := (Array.getElem?_eq_some_iff.1 ho2).1
    rw [range_cons hsz2, wpOps_cons]
    have hti2 : ((a.put (some x.tn) (.tuple #[.bool true, p1, p2])).put (some x.tok) (.bool true)).eval (.tmp x.ti) = .pointer (some ⟨Li.blk, 0, none⟩) := by
      have := l2.lookup x.ti
      simp only [look] at this
      rw [if_neg hx.d3, if_neg hx.d2, hti] at this
      obtain ⟨b, o, L, he, hLb, hv⟩ := this.ptr_inv
      cases he
      rw [hL] at hLb
      cases hLb
      rw [hoff] at hv
      exact hv
    have hi' : (h.set i (iterB m cl cl (seen ++ [t]))).get i = some (iterB m cl cl (seen ++ [t])) := H.get_set_same _ _ _
    have him : i ≠ m := by
      rintro rfl
      rw [hi] at hmp
      unfold iterB mapB at hmp; simp at hmp
    have hm' : (h.set i (iterB m cl cl (seen ++ [t]))).get m = some (mapB sz cl E) := by rw [H.get_set_ne _ _ (Ne.symm him)]; exact hmp
    obtain ⟨ve, hre, hve⟩ := entry_sim (P := x.P) r' hi' hm' hL hmem (by rw [hb]; exact hnd)
    refine wpOp_value ho2 hg2 (v := ve) (w' := w') (by simp [execOp, hop2, hti2, hre]) ?_
    rw [hdst2]
    have l3 := l2.put (d := x.te) hx.nte (v := .tuple #[k0, v0]) (v' := ve) hve.weak
    have ht : t ∈ rem := by
      rcases h1 t (hb ▸ List.mem_map.2 ⟨_, hmem, rfl⟩) with hs | hs
      · exact absurd hs hns
      · exact hs
    have hper : ∀ π', π'.Perm (rem.erase t) → (t :: π').Perm rem := fun π' hp => (List.Perm.cons t hp).trans (List.perm_cons_erase ht).symm
    obtain ⟨s', n', h', hro, hfin⟩ := hrun (t :: rem.erase t) (hper _ (List.Perm.refl _))
    cases hro with
    | @cons _ _ _ _ _ _ E0 E2 k1 v1 vs n1 _ h1' _ _ hE0 hmem0 hbody hci hcm hcb hgd hro =>
    have hE0 : E = E0 := by
      rw [hmp] at hE0
      exact mapB_inj (Option.some.inj hE0)
    subst hE0
    obtain ⟨rfl, rfl⟩ := born_uniq (by rw [hb]; exact hnd) hmem hmem0
    have hbody0 := hbody
    unfold Walk.body at hbody
    obtain ⟨Γ2, n2, h2', e1, e2⟩ := bnd_some hbody
    refine runL_wpOps hx.hE _ ρ _ w' _ Γ2 _ n n2 h2' r' l3 e1 fun a2 ρ2 w2 l4 hd2 r2 ex2 => ?_
    have hok := mA_ok (F := x.F) x.rest ⟨x.P, x.G, x.E, x.N, ρ2, h2', w2, (.tuple vs, n1, h1')⟩ (Exit.inBlock x.B1 (Exit.then (fun a w => I k a w) (Exit.inBlock x.B Q))) Γ2 (fun e Γ3 => match e with
      | .normal => ret (.tuple (x.ts.map (look Γ3)).toArray)
      | _ => fail) hx.ha hx.hm hx.hE hx.hs (fun e Γ3 => ?_)
    · exact hok n2 h2' ρ2 w2 a2 e2 r2 (Ext.refl _ _ _) l4 (hd2.trans hd)
    · cases e with
      | exit j => exact qFail
      | ret => exact qFail
      | normal =>
        intro n3 h3' ρ3 w3 a3 e3 r3 ex3 l5 hd3
        obtain ⟨ev, en, eh⟩ := ret_some e3
        subst en eh
        cases ev
        have hW := hx.hw n n1 h1'
        refine ⟨rem.erase t, seen ++ [t], x.ts.map (look Γ3), n1, x.clean n n1 h1', ρ3, E2, hci, hcm, hcb, ex3.le _ _ (ex2.le _ _ hL), ?_, ?_, ?_, h3.erase t, ?_, r3.weak hW, ?_, ?_, hd3, ?_⟩
        · simpa using hgd
        · intro u hu
          rcases h1 u hu with hs | hs
          · exact .inl (List.mem_append_left _ hs)
          · by_cases hut : u = t
            · subst hut; exact .inl (List.mem_append_right _ (List.mem_singleton.2 rfl))
            · exact .inr ((List.mem_erase_of_ne hut).2 hs)
        · intro u hu
          have hmu := List.mem_of_mem_erase hu
          refine ⟨(h2 u hmu).1, fun hs => ?_⟩
          rcases List.mem_append.1 hs with hs | hs
          · exact (h2 u hmu).2 hs
          · have := List.mem_singleton.1 hs
            subst this
            exact (List.Nodup.mem_erase_iff h3).1 hu |>.1 rfl
        · intro π' hp
          obtain ⟨s2, n2', h2'', hro2, hfin2⟩ := hrun (t :: π') (hper π' hp)
          cases hro2 with
          | @cons _ _ _ _ _ _ E4 E5 k4 v4 vs4 n4 _ h4 _ _ hE4 hmem4 hbody4 hci4 hcm4 hcb4 hgd4 hro4 =>
          have hE4 : E = E4 := by
            rw [hmp] at hE4
            exact mapB_inj (Option.some.inj hE4)
          subst hE4
          obtain ⟨rfl, rfl⟩ := born_uniq (by rw [hb]; exact hnd) hmem hmem4
          rw [hbody0] at hbody4
          simp only [Option.some.injEq, Prod.mk.injEq, Value.tuple.injEq] at hbody4
          obtain ⟨rfl, rfl, rfl⟩ := hbody4
          refine ⟨s2, n2', h2'', ?_, hfin2⟩
          simpa using hro4
        · exact ((ex.trans ex').trans (ex2.trans ex3)).trans (Ext.weak hW)
        · show Live ρ3 x.N (x.ts.zip (x.ts.map (look Γ3))) a3
          rw [zip_map_look]
          exact l5.some x.ts
        · have : (rem.erase t).length = rem.length - 1 := List.length_erase_of_mem ht
          have := List.length_pos_of_mem ht
          omega

end Go.Fw
end
