/-
  The framework by which the law is proved: FnW, FnM, FnN, FsP, FsA, FsB, FnG, FsC, FsD, FsE, FsF, FsG, FsH, FsI, FsJ.
-/
import Derived.Test.YtdomcfoabnhlfaaSfn1
import Derived.Test.YtdomcfoabnhlfaaSwk2
import Derived.Test.YtdomcfoabnhlfaaGenS
set_option linter.all false
section
set_option linter.unusedVariables false
namespace Go.Fn
open Go Go.Fw

abbrev Post := V → Nat → H → Prop
/-- The run comes to an end, and what is asked holds there. -/
def Wp (m : St) (n : Nat) (h : H) (Q : Post) : Prop := ∃ v n' h', m.run n h = some (v, n', h') ∧ Q v n' h'

variable {n : Nat} {h : H} {Q : Post} {K : V → St}

theorem Wp.mono {m : St} {R : Post} (w : Wp m n h R) (hq : ∀ v n' h', R v n' h' → Q v n' h') : Wp m n h Q := by
  obtain ⟨v, n', h', e, r⟩ := w
  exact ⟨v, n', h', e, hq _ _ _ r⟩
theorem Wp.of {m m' : St} {n2 : Nat} {h2 : H} (e : m.run n h = m'.run n2 h2) (w : Wp m' n2 h2 Q) : Wp m n h Q := by
  obtain ⟨v, n', h', e', r⟩ := w
  exact ⟨v, n', h', e.trans e', r⟩
theorem Wp.eq {m m' : St} (e : m = m') : Wp m n h Q ↔ Wp m' n h Q := by rw [e]
theorem Wp.retI {v : V} : Wp (ret v) n h Q ↔ Q v n h := by
  refine ⟨fun ⟨v', n', h', e, r⟩ => ?_, fun r => ⟨v, n, h, rfl, r⟩⟩
  cases e
  exact r
theorem Wp.failI : Wp (fail : St) n h Q ↔ False := by
  refine ⟨fun ⟨v', n', h', e, r⟩ => ?_, False.elim⟩
  cases e
theorem Wp.cl {m : St} {R : Post} (w : Wp m n h R) (hK : ∀ v n' h', R v n' h' → Wp (K v) n' h' Q) : Wp (cl m K) n h Q := by
  obtain ⟨v, n', h', e, r⟩ := w
  exact Wp.of (run_bnd e) (hK _ _ _ r)

/-! ## Steps that only reckon -/

theorem Wp.bool {b : Bool} {t f : St} : Wp (onB (bo b) t f) n h Q ↔ ((b = true → Wp t n h Q) ∧ (b = false → Wp f n h Q)) := by
  cases b
  · show Wp f n h Q ↔ _; simp
  · show Wp t n h Q ↔ _; simp

/-- All that is plain, in one. -/
theorem wpS :
    (∀ (n : Nat) (h : H) (Q : Post) (v : V), Wp (ret v) n h Q ↔ Q v n h) ∧
    (∀ (n : Nat) (h : H) (Q : Post) (v w : V), Wp (tupK [v, w]) n h Q ↔ (stv v = true ∧ stv w = true ∧ Q (.tuple #[v, w]) n h)) ∧
    (∀ (n : Nat) (h : H) (Q : Post), Wp (tupK []) n h Q ↔ Q undef n h) ∧
    (∀ (n : Nat) (h : H) (Q : Post) (α : Type) (b : α) (k : α → St), Wp (jn b k) n h Q ↔ Wp (k b) n h Q) ∧
    (∀ (n : Nat) (h : H) (Q : Post) (b : Bool) (t f : St), Wp (onB (bo b) t f) n h Q ↔ ((b = true → Wp t n h Q) ∧ (b = false → Wp f n h Q))) ∧
    (∀ (n : Nat) (h : H) (Q : Post) (K : V → St) (a b : Int), Wp (kEql (i64 a) (i64 b) K) n h Q ↔ Wp (K (bo (decide (a = b)))) n h Q) ∧
    (∀ (n : Nat) (h : H) (Q : Post) (K : V → St) (a b : Int), Wp (kNeq (i64 a) (i64 b) K) n h Q ↔ Wp (K (bo (decide (a ≠ b)))) n h Q) ∧
    (∀ (n : Nat) (h : H) (Q : Post) (K : V → St) (a b : Int), Wp (kLss (i64 a) (i64 b) K) n h Q ↔ Wp (K (bo (decide (a < b)))) n h Q) ∧
    (∀ (n : Nat) (h : H) (Q : Post) (K : V → St) (a b : Int), Wp (kLeq (i64 a) (i64 b) K) n h Q ↔ Wp (K (bo (decide (a ≤ b)))) n h Q) ∧
    (∀ (n : Nat) (h : H) (Q : Post) (K : V → St) (a b : Int), Wp (kGtr (i64 a) (i64 b) K) n h Q ↔ Wp (K (bo (decide (b < a)))) n h Q) ∧
    (∀ (n : Nat) (h : H) (Q : Post) (K : V → St) (a b : Int), Wp (kGeq (i64 a) (i64 b) K) n h Q ↔ Wp (K (bo (decide (b ≤ a)))) n h Q) ∧
    (∀ (n : Nat) (h : H) (Q : Post) (K : V → St) (a : Bool), Wp (kNot (bo a) K) n h Q ↔ Wp (K (bo (!a))) n h Q) ∧
    (∀ (n : Nat) (h : H) (Q : Post) (K : V → St) (a : Addr), Wp (kNil (.pointer (some a)) K) n h Q ↔ Wp (K (.pointer (some a))) n h Q) ∧
    (∀ (n : Nat) (h : H) (Q : Post) (K : V → St) (a : Option Addr) (l c : Nat), Wp (kLen (.slice a l c) K) n h Q ↔ Wp (K (i64 l)) n h Q) ∧
    (∀ (n : Nat) (h : H) (Q : Post) (K : V → St) (off b o : Nat), Wp (kFieldAddr off (pt b o) K) n h Q ↔ Wp (K (pt b (o + off))) n h Q) ∧
    (∀ (n : Nat) (h : H) (Q : Post) (K : V → St) (neg a b : Bool), Wp (kEqB neg (bo a) (bo b) K) n h Q ↔ Wp (K (bo (xor neg (a == b)))) n h Q) ∧
    (∀ (n : Nat) (h : H) (Q : Post) (K : V → St) (neg : Bool), Wp (kEqP neg (.pointer none) (.pointer none) K) n h Q ↔ Wp (K (bo (xor neg true))) n h Q) ∧
    (∀ (n : Nat) (h : H) (Q : Post) (K : V → St) (neg : Bool) (a : Addr), Wp (kEqP neg (.pointer (some a)) (.pointer none) K) n h Q ↔ Wp (K (bo (xor neg false))) n h Q) ∧
    (∀ (n : Nat) (h : H) (Q : Post) (K : V → St) (a b : Int), Wp (kAdd (i64 a) (i64 b) K) n h Q ↔ Wp (K (i64 (IntKind.i64.wrap (a + b)))) n h Q) ∧
    (∀ (n : Nat) (h : H) (Q : Post) (K : V → St) (a b : Int), Wp (kSub (i64 a) (i64 b) K) n h Q ↔ Wp (K (i64 (IntKind.i64.wrap (a - b)))) n h Q) := by
  refine ⟨fun _ _ _ _ => Wp.retI, fun n h Q v w => ?_, fun _ _ _ => Wp.retI, fun _ _ _ _ _ _ => Iff.rfl, fun _ _ _ _ _ _ => Wp.bool, fun _ _ _ K a b => Wp.eq (by rw [show decide (a = b) = (a == b) by rw [Bool.eq_iff_iff]; simp]; exact st_eql), fun _ _ _ K a b => Wp.eq (by rw [show decide (a ≠ b) = (a != b) by rw [Bool.eq_iff_iff]; simp]; exact st_neq), fun _ _ _ _ _ _ => Wp.eq st_lss, fun _ _ _ _ _ _ => Wp.eq st_leq,
    fun _ _ _ _ _ _ => Wp.eq st_gtr, fun _ _ _ _ _ _ => Wp.eq st_geq, fun _ _ _ _ _ => Wp.eq st_not, fun _ _ _ _ _ => Wp.eq st_nil, fun _ _ _ _ _ _ _ => Wp.eq st_len, fun _ _ _ _ _ _ _ => Wp.eq st_field, fun _ _ _ _ _ _ _ => Wp.eq st_eqB, fun _ _ _ _ _ => Wp.eq st_eqP0, fun _ _ _ _ _ _ => Wp.eq st_eqP1,
    fun _ _ _ _ _ _ => Wp.eq st_add, fun _ _ _ _ _ _ => Wp.eq st_sub⟩
  show Wp (if [v, w].all stv then Fw.ret (.tuple #[v, w]) else Fw.fail) n h Q ↔ _
  cases hv : stv v <;> cases hw : stv w <;> simp [hv, hw, Wp.retI, Wp.failI]

/-! ## Memory -/

theorem Wp.load {b o : Nat} {cs : List V} {kd : Kind} {v : V} (hb : h.get b = some ⟨cs, kd⟩) (hk : kd ≠ .dead) (hv : cs[o]? = some v) (w : Wp (K v) n h Q) : Wp (kLoad (pt b o) K) n h Q := Wp.of (ld1 hb hk hv) w
theorem Wp.store {b o : Nat} {cs : List V} {kd : Kind} {v : V} (hb : h.get b = some ⟨cs, kd⟩) (hk : kd = .own ∨ kd = .grow) (h1 : one v = true) (ho : o < cs.length) (w : Wp (K undef) n (h.set b ⟨cs.set o v, kd⟩) Q) : Wp (kStore (pt b o) v K) n h Q :=
  Wp.of (st1 hb hk h1 ho) w
theorem Wp.ptr {cs : List V} (f : Fr n h) (h1 : cs.all one = true) (w : Wp (K (pt n 0)) (n + 1) (h.set n ⟨cs, .own⟩) Q) : Wp (kPtr cs K) n h Q := Wp.of (run_ptr f h1) w
theorem Wp.boxN {cs : List V} (f : Fr n h) (h1 : cs.all one = true) (w : Wp (K (pt n 0)) (n + 1) (h.set n ⟨cs, .own⟩) Q) : Wp (kBoxN (.agg cs.toArray) K) n h Q := Wp.of (run_box f h1) w

/-- What a cell holds that may be looked at. -/
def ldv (x : Option Blk) (o : Nat) : Option V :=
  match x with
  | some ⟨_, .dead⟩ => none
  | some ⟨cs, _⟩ => cs[o]?
  | none => none
theorem ldv_own {cs : List V} {o : Nat} : ldv (some ⟨cs, .own⟩) o = cs[o]? := rfl
theorem ldv_ro {cs : List V} {o : Nat} : ldv (some ⟨cs, .ro⟩) o = cs[o]? := rfl
theorem ldv_grow {cs : List V} {o : Nat} : ldv (some ⟨cs, .grow⟩) o = cs[o]? := rfl
theorem Wp.loadI {b o : Nat} : Wp (kLoad (pt b o) K) n h Q ↔ ∃ v, ldv (h.get b) o = some v ∧ Wp (K v) n h Q := by
  have e : (kLoad (pt b o) K).run n h = (ldv (h.get b) o).bind fun v => (K v).run n h := by
    show (bnd (opLoad (pt b o)) K).run n h = _
    rw [Fw.run_load]
    unfold ldm ldv
    cases h.get b with
    | none => rfl
    | some B =>
      obtain ⟨cs, kd⟩ := B
      cases kd <;> dsimp only <;> first | rfl | (cases cs[o]? <;> rfl)
  constructor
  · rintro ⟨v, n', h', e1, q⟩
    rw [e] at e1
    cases hl : ldv (h.get b) o with
    | none => rw [hl] at e1; cases e1
    | some u => rw [hl] at e1; exact ⟨u, rfl, v, n', h', e1, q⟩
  · rintro ⟨u, hu, w⟩
    refine Wp.of ?_ w
    rw [e, hu]; rfl

/-! ## Loops -/

/-! A loop: I says what holds with d rounds left at the most. -/
theorem Wp.loop2 {z : V → V → St} {B : (V → V → St) → V → V → St} (I : Nat → V → V → Nat → H → Prop)
    (step : ∀ d x0 x1 n h (r : V → V → St), I d x0 x1 n h → (∀ d' y0 y1 n' h', d' < d → I d' y0 y1 n' h' → Wp (r y0 y1) n' h' Q) → Wp (B r x0 x1) n h Q) :
    ∀ {d x0 x1 n h k}, I d x0 x1 n h → d < k → Wp (lpK z B k x0 x1) n h Q := by
  intro d x0 x1 n h k hI hk
  induction k generalizing d x0 x1 n h with
  | zero => omega
  | succ k ih => exact step d x0 x1 n h _ hI fun d' y0 y1 n' h' hd hI' => ih hI' (by omega)
theorem Wp.loop3 {z : V → V → V → St} {B : (V → V → V → St) → V → V → V → St} (I : Nat → V → V → V → Nat → H → Prop)
    (step : ∀ d x0 x1 x2 n h (r : V → V → V → St), I d x0 x1 x2 n h → (∀ d' y0 y1 y2 n' h', d' < d → I d' y0 y1 y2 n' h' → Wp (r y0 y1 y2) n' h' Q) → Wp (B r x0 x1 x2) n h Q) :
    ∀ {d x0 x1 x2 n h k}, I d x0 x1 x2 n h → d < k → Wp (lpK z B k x0 x1 x2) n h Q := by
  intro d x0 x1 x2 n h k hI hk
  induction k generalizing d x0 x1 x2 n h with
  | zero => omega
  | succ k ih => exact step d x0 x1 x2 n h _ hI fun d' y0 y1 y2 n' h' hd hI' => ih hI' (by omega)
theorem Wp.loop4 {z : V → V → V → V → St} {B : (V → V → V → V → St) → V → V → V → V → St} (I : Nat → V → V → V → V → Nat → H → Prop)
    (step : ∀ d x0 x1 x2 x3 n h (r : V → V → V → V → St), I d x0 x1 x2 x3 n h → (∀ d' y0 y1 y2 y3 n' h', d' < d → I d' y0 y1 y2 y3 n' h' → Wp (r y0 y1 y2 y3) n' h' Q) → Wp (B r x0 x1 x2 x3) n h Q) :
    ∀ {d x0 x1 x2 x3 n h k}, I d x0 x1 x2 x3 n h → d < k → Wp (lpK z B k x0 x1 x2 x3) n h Q := by
  intro d x0 x1 x2 x3 n h k hI hk
  induction k generalizing d x0 x1 x2 x3 n h with
  | zero => omega
  | succ k ih => exact step d x0 x1 x2 x3 n h _ hI fun d' y0 y1 y2 y3 n' h' hd hI' => ih hI' (by omega)
theorem Wp.loop5 {z : V → V → V → V → V → St} {B : (V → V → V → V → V → St) → V → V → V → V → V → St} (I : Nat → V → V → V → V → V → Nat → H → Prop)
    (step : ∀ d x0 x1 x2 x3 x4 n h (r : V → V → V → V → V → St), I d x0 x1 x2 x3 x4 n h → (∀ d' y0 y1 y2 y3 y4 n' h', d' < d → I d' y0 y1 y2 y3 y4 n' h' → Wp (r y0 y1 y2 y3 y4) n' h' Q) → Wp (B r x0 x1 x2 x3 x4) n h Q) :
    ∀ {d x0 x1 x2 x3 x4 n h k}, I d x0 x1 x2 x3 x4 n h → d < k → Wp (lpK z B k x0 x1 x2 x3 x4) n h Q := by
  intro d x0 x1 x2 x3 x4 n h k hI hk
  induction k generalizing d x0 x1 x2 x3 x4 n h with
  | zero => omega
  | succ k ih => exact step d x0 x1 x2 x3 x4 n h _ hI fun d' y0 y1 y2 y3 y4 n' h' hd hI' => ih hI' (by omega)
theorem Wp.loop6 {z : V → V → V → V → V → V → St} {B : (V → V → V → V → V → V → St) → V → V → V → V → V → V → St} (I : Nat → V → V → V → V → V → V → Nat → H → Prop)
    (step : ∀ d x0 x1 x2 x3 x4 x5 n h (r : V → V → V → V → V → V → St), I d x0 x1 x2 x3 x4 x5 n h → (∀ d' y0 y1 y2 y3 y4 y5 n' h', d' < d → I d' y0 y1 y2 y3 y4 y5 n' h' → Wp (r y0 y1 y2 y3 y4 y5) n' h' Q) → Wp (B r x0 x1 x2 x3 x4 x5) n h Q) :
    ∀ {d x0 x1 x2 x3 x4 x5 n h k}, I d x0 x1 x2 x3 x4 x5 n h → d < k → Wp (lpK z B k x0 x1 x2 x3 x4 x5) n h Q := by
  intro d x0 x1 x2 x3 x4 x5 n h k hI hk
  induction k generalizing d x0 x1 x2 x3 x4 x5 n h with
  | zero => omega
  | succ k ih => exact step d x0 x1 x2 x3 x4 x5 n h _ hI fun d' y0 y1 y2 y3 y4 y5 n' h' hd hI' => ih hI' (by omega)
theorem Wp.loop7 {z : V → V → V → V → V → V → V → St} {B : (V → V → V → V → V → V → V → St) → V → V → V → V → V → V → V → St} (I : Nat → V → V → V → V → V → V → V → Nat → H → Prop)
    (step : ∀ d x0 x1 x2 x3 x4 x5 x6 n h (r : V → V → V → V → V → V → V → St), I d x0 x1 x2 x3 x4 x5 x6 n h → (∀ d' y0 y1 y2 y3 y4 y5 y6 n' h', d' < d → I d' y0 y1 y2 y3 y4 y5 y6 n' h' → Wp (r y0 y1 y2 y3 y4 y5 y6) n' h' Q) → Wp (B r x0 x1 x2 x3 x4 x5 x6) n h Q) :
    ∀ {d x0 x1 x2 x3 x4 x5 x6 n h k}, I d x0 x1 x2 x3 x4 x5 x6 n h → d < k → Wp (lpK z B k x0 x1 x2 x3 x4 x5 x6) n h Q := by
  intro d x0 x1 x2 x3 x4 x5 x6 n h k hI hk
  induction k generalizing d x0 x1 x2 x3 x4 x5 x6 n h with
  | zero => omega
  | succ k ih => exact step d x0 x1 x2 x3 x4 x5 x6 n h _ hI fun d' y0 y1 y2 y3 y4 y5 y6 n' h' hd hI' => ih hI' (by omega)
theorem Wp.loop8 {z : V → V → V → V → V → V → V → V → St} {B : (V → V → V → V → V → V → V → V → St) → V → V → V → V → V → V → V → V → St} (I : Nat → V → V → V → V → V → V → V → V → Nat → H → Prop)
    (step : ∀ d x0 x1 x2 x3 x4 x5 x6 x7 n h (r : V → V → V → V → V → V → V → V → St), I d x0 x1 x2 x3 x4 x5 x6 x7 n h → (∀ d' y0 y1 y2 y3 y4 y5 y6 y7 n' h', d' < d → I d' y0 y1 y2 y3 y4 y5 y6 y7 n' h' → Wp (r y0 y1 y2 y3 y4 y5 y6 y7) n' h' Q) → Wp (B r x0 x1 x2 x3 x4 x5 x6 x7) n h Q) :
    ∀ {d x0 x1 x2 x3 x4 x5 x6 x7 n h k}, I d x0 x1 x2 x3 x4 x5 x6 x7 n h → d < k → Wp (lpK z B k x0 x1 x2 x3 x4 x5 x6 x7) n h Q := by
  intro d x0 x1 x2 x3 x4 x5 x6 x7 n h k hI hk
  induction k generalizing d x0 x1 x2 x3 x4 x5 x6 x7 n h with
  | zero => omega
  | succ k ih => exact step d x0 x1 x2 x3 x4 x5 x6 x7 n h _ hI fun d' y0 y1 y2 y3 y4 y5 y6 y7 n' h' hd hI' => ih hI' (by omega)
theorem Wp.loop9 {z : V → V → V → V → V → V → V → V → V → St} {B : (V → V → V → V → V → V → V → V → V → St) → V → V → V → V → V → V → V → V → V → St} (I : Nat → V → V → V → V → V → V → V → V → V → Nat → H → Prop)
    (step : ∀ d x0 x1 x2 x3 x4 x5 x6 x7 x8 n h (r : V → V → V → V → V → V → V → V → V → St), I d x0 x1 x2 x3 x4 x5 x6 x7 x8 n h → (∀ d' y0 y1 y2 y3 y4 y5 y6 y7 y8 n' h', d' < d → I d' y0 y1 y2 y3 y4 y5 y6 y7 y8 n' h' → Wp (r y0 y1 y2 y3 y4 y5 y6 y7 y8) n' h' Q) → Wp (B r x0 x1 x2 x3 x4 x5 x6 x7 x8) n h Q) :
    ∀ {d x0 x1 x2 x3 x4 x5 x6 x7 x8 n h k}, I d x0 x1 x2 x3 x4 x5 x6 x7 x8 n h → d < k → Wp (lpK z B k x0 x1 x2 x3 x4 x5 x6 x7 x8) n h Q := by
  intro d x0 x1 x2 x3 x4 x5 x6 x7 x8 n h k hI hk
  induction k generalizing d x0 x1 x2 x3 x4 x5 x6 x7 x8 n h with
  | zero => omega
  | succ k ih => exact step d x0 x1 x2 x3 x4 x5 x6 x7 x8 n h _ hI fun d' y0 y1 y2 y3 y4 y5 y6 y7 y8 n' h' hd hI' => ih hI' (by omega)
end Go.Fn
end
section
set_option linter.unusedVariables false
namespace Go.Fn
open Go Go.Fw

variable {n : Nat} {h : H} {Q : Post} {K : V → St}

theorem Wp.bind {γ : Type} {x : Option γ} {f : γ → Option (V × Nat × H)} {m : St} (e : m.run n h = x.bind f) : Wp m n h Q ↔ ∃ g, x = some g ∧ ∃ v n' h', f g = some (v, n', h') ∧ Q v n' h' := by
  unfold Wp
  rw [e]
  cases x <;> simp

/-- A cell is written. -/
def wst (x : Option Blk) (o : Nat) (v : V) (f : Blk → Prop) : Prop :=
  match x with
  | some ⟨cs, .own⟩ => one v = true ∧ o < cs.length ∧ f ⟨cs.set o v, .own⟩
  | some ⟨cs, .grow⟩ => one v = true ∧ o < cs.length ∧ f ⟨cs.set o v, .grow⟩
  | _ => False
theorem Wp.storeI {b o : Nat} {v : V} : Wp (kStore (pt b o) v K) n h Q ↔ wst (h.get b) o v fun B => Wp (K undef) n (h.set b B) Q := by
  unfold Wp
  have e : (kStore (pt b o) v K).run n h = stm (h.get b) o v fun B => (K undef).run n (h.set b B) := Fw.run_store
  rw [e]
  unfold stm wst
  cases h.get b with
  | none => cases one v <;> simp
  | some B =>
    obtain ⟨cs, kd⟩ := B
    cases kd <;> cases one v <;> simp <;> (by_cases ho : o < cs.length <;> simp [ho])

/-- Cells are looked at. -/
def ldn (x : Option Blk) (o s : Nat) (f : List V → Prop) : Prop :=
  match x with
  | some ⟨_, .dead⟩ => False
  | some ⟨cs, _⟩ => o + s ≤ cs.length ∧ f ((cs.drop o).take s)
  | none => False
theorem ldn_live {cs : List V} {kd : Kind} {o s : Nat} {f : List V → Prop} (hk : kd ≠ .dead) : ldn (some ⟨cs, kd⟩) o s f ↔ (o + s ≤ cs.length ∧ f ((cs.drop o).take s)) := by
  cases kd <;> first | exact Iff.rfl | exact absurd rfl hk
theorem Wp.loadNI {b o s : Nat} : Wp (kLoadN s (pt b o) K) n h Q ↔ ldn (h.get b) o s fun cs => Wp (K (.agg cs.toArray)) n h Q := by
  unfold Wp
  have e : (kLoadN s (pt b o) K).run n h = ldN (h.get b) o s fun cs => (K (.agg cs.toArray)).run n h := Fw.run_loadN
  rw [e]
  unfold ldN ldn
  cases h.get b with
  | none => simp
  | some B =>
    obtain ⟨cs, kd⟩ := B
    cases kd <;> simp <;> (by_cases ho : o + s ≤ cs.length <;> simp [ho])

/-- Cells are written. -/
def wsn (x : Option Blk) (o : Nat) (vs : List V) (f : Blk → Prop) : Prop :=
  match x with
  | some ⟨cs, .own⟩ => vs.all one = true ∧ o + vs.length ≤ cs.length ∧ f ⟨over cs o vs, .own⟩
  | some ⟨cs, .grow⟩ => vs.all one = true ∧ o + vs.length ≤ cs.length ∧ f ⟨over cs o vs, .grow⟩
  | _ => False
theorem Wp.storeNI {b o k : Nat} {vs : Array V} : Wp (kStoreN k (pt b o) (.agg vs) K) n h Q ↔ (vs.size = k ∧ wsn (h.get b) o vs.toList fun B => Wp (K undef) n (h.set b B) Q) := by
  have e : (kStoreN k (pt b o) (.agg vs) K).run n h = if vs.size = k then (wrNF b o vs.toList n h).bind fun x => (K undef).run x.2.1 x.2.2 else none := by
    show (bnd (if vs.size = k then bnd (wrN b o vs.toList) fun _ => Fw.ret undef else Fw.fail) K).run n h = _
    by_cases hk : vs.size = k
    · rw [if_pos hk, if_pos hk, bnd_assoc, run_bnd']; rfl
    · rw [if_neg hk, if_neg hk]; rfl
  unfold Wp
  rw [e]
  by_cases hk : vs.size = k
  · rw [if_pos hk]
    unfold wrNF wsn
    cases h.get b with
    | none => simp [hk]
    | some B =>
      obtain ⟨cs, kd⟩ := B
      cases hv : vs.toList.all one <;> cases kd <;> simp [hk] <;> (by_cases ho : o + k ≤ cs.length <;> simp_all [Nat.not_le.2])
  · rw [if_neg hk]; simp [hk]

theorem Wp.buildI {z : List V} {ps : List (Nat × Nat × Bool × V)} : Wp (kBuild z ps K) n h Q ↔ ∃ cs, fillA z ps = some cs ∧ Wp (K (.agg cs.toArray)) n h Q := by
  unfold kBuild opBuild
  cases fillA z ps with
  | none => simpa using (show Wp (bnd Fw.fail K) n h Q ↔ False from Wp.failI)
  | some cs =>
    simp only [Option.some.injEq, exists_eq_left']
    exact Iff.rfl

theorem Wp.ptrI {cs : List V} (f : Fr n h) : Wp (kPtr cs K) n h Q ↔ (cs.all one = true ∧ Wp (K (pt n 0)) (n + 1) (h.set n ⟨cs, .own⟩) Q) := by
  constructor
  · rintro ⟨v, n', h', e, q⟩
    cases h1 : cs.all one with
    | true => exact ⟨rfl, v, n', h', (run_ptr f h1).symm.trans e, q⟩
    | false =>
      exfalso
      replace e : (bnd (opPtr cs) K).run n h = _ := e
      unfold opPtr at e
      rw [bnd_assoc, run_bnd'] at e
      replace e : ((newF cs .own n h).bind _ : Option _) = _ := e
      unfold newF at e
      rw [h1] at e
      cases e
  · rintro ⟨h1, w⟩
    exact Wp.ptr f h1 w
theorem Wp.boxNI {cs : Array V} (f : Fr n h) : Wp (kBoxN (.agg cs) K) n h Q ↔ (cs.toList.all one = true ∧ Wp (K (pt n 0)) (n + 1) (h.set n ⟨cs.toList, .own⟩) Q) := Wp.ptrI (cs := cs.toList) f
theorem Wp.buildSliceI {m : Nat} {z : List V} {ps : List (Nat × Nat × Bool × V)} (f : Fr n h) : Wp (kBuildSlice m z ps K) n h Q ↔ ∃ cs, fillA z ps = some cs ∧ cs.all one = true ∧ Wp (K (sl n 0 m m)) (n + 1) (h.set n ⟨cs, .own⟩) Q := by
  unfold kBuildSlice opBuildSlice
  cases fillA z ps with
  | none => simpa using (show Wp (bnd Fw.fail K) n h Q ↔ False from Wp.failI)
  | some cs =>
    simp only [Option.some.injEq, exists_eq_left']
    constructor
    · rintro ⟨v, n', h', e, q⟩
      rw [bnd_assoc, run_bnd'] at e
      cases h1 : cs.all one with
      | true =>
        refine ⟨rfl, v, n', h', ?_, q⟩
        replace e : ((newF cs .own n h).bind _ : Option _) = _ := e
        unfold newF at e
        rw [h1, f n (Nat.le_refl _)] at e
        exact e
      | false =>
        replace e : ((newF cs .own n h).bind _ : Option _) = _ := e
        unfold newF at e
        rw [h1] at e
        cases e
    · rintro ⟨h1, w⟩
      refine Wp.of ?_ w
      rw [bnd_assoc, run_new f h1]; rfl
theorem Wp.extractI {vs : Array V} {i : Nat} : Wp (kExtract (.tuple vs) i K) n h Q ↔ ∃ v, vs.toList[i]? = some v ∧ (vs.size == 1 && isNF v) = false ∧ Wp (K v) n h Q := by
  have e : kExtract (.tuple vs) i K = bnd (match vs.toList[i]? with
    | some v => if vs.size == 1 && isNF v then Fw.fail else Fw.ret v
    | none => Fw.fail) K := rfl
  rw [e]
  cases vs.toList[i]? with
  | none =>
    show Wp Fw.fail n h Q ↔ _
    rw [Wp.failI]; simp
  | some v =>
    dsimp only
    simp only [Option.some.injEq, exists_eq_left']
    cases (vs.size == 1 && isNF v) with
    | true =>
      show Wp Fw.fail n h Q ↔ _
      rw [Wp.failI]; simp
    | false =>
      show Wp (K v) n h Q ↔ _
      simp

/-- All of memory that is plain, in one. -/
theorem wpM :
    (∀ (n : Nat) (h : H) (Q : Post) (K : V → St) (b o : Nat), Wp (kLoad (pt b o) K) n h Q ↔ ∃ v, ldv (h.get b) o = some v ∧ Wp (K v) n h Q) ∧
    (∀ (n : Nat) (h : H) (Q : Post) (K : V → St) (b o : Nat) (v : V), Wp (kStore (pt b o) v K) n h Q ↔ wst (h.get b) o v fun B => Wp (K undef) n (h.set b B) Q) ∧
    (∀ (n : Nat) (h : H) (Q : Post) (K : V → St) (b o s : Nat), Wp (kLoadN s (pt b o) K) n h Q ↔ ldn (h.get b) o s fun cs => Wp (K (.agg cs.toArray)) n h Q) ∧
    (∀ (n : Nat) (h : H) (Q : Post) (K : V → St) (b o k : Nat) (vs : Array V), Wp (kStoreN k (pt b o) (.agg vs) K) n h Q ↔ (vs.size = k ∧ wsn (h.get b) o vs.toList fun B => Wp (K undef) n (h.set b B) Q)) ∧
    (∀ (n : Nat) (h : H) (Q : Post) (K : V → St) (z : List V) (ps : List (Nat × Nat × Bool × V)), Wp (kBuild z ps K) n h Q ↔ ∃ cs, fillA z ps = some cs ∧ Wp (K (.agg cs.toArray)) n h Q) ∧
    (∀ (n : Nat) (h : H) (Q : Post) (K : V → St) (vs : Array V) (i : Nat), Wp (kExtract (.tuple vs) i K) n h Q ↔ ∃ v, vs.toList[i]? = some v ∧ (vs.size == 1 && isNF v) = false ∧ Wp (K v) n h Q) :=
  ⟨fun _ _ _ _ _ _ => Wp.loadI, fun _ _ _ _ _ _ _ => Wp.storeI, fun _ _ _ _ _ _ _ => Wp.loadNI, fun _ _ _ _ _ _ _ _ => Wp.storeNI, fun _ _ _ _ _ _ => Wp.buildI, fun _ _ _ _ _ _ => Wp.extractI⟩

theorem nnS (k : Nat) : ((k : Int) < 0) = False := by simp
theorem oneS : (∀ z, one (i64 z) = true) ∧ (∀ b, one (bo b) = true) ∧ one nsl = true ∧ (∀ b o l c, one (sl b o l c) = true) ∧ (∀ b o, one (pt b o) = true) ∧ one (.pointer none) = true ∧
    (∀ z, stv (i64 z) = true) ∧ (∀ b, stv (bo b) = true) ∧ (∀ cs, stv (.agg cs) = true) ∧ (∀ b o l c, stv (sl b o l c) = true) ∧ stv nsl = true := ⟨fun _ => rfl, fun _ => rfl, rfl, fun _ _ _ _ => rfl, fun _ _ => rfl, rfl, fun _ => rfl, fun _ => rfl, fun _ => rfl, fun _ _ _ _ => rfl, rfl⟩

/-! ## What is below does not turn -/

end Go.Fn
namespace Go.Fw
theorem Ev.start {n : Nat} {h : H} (f : Fr n h) : Ev No n h n h := Ev.refl f
theorem Ev.new {n m : Nat} {h h' : H} (e : Ev No n h m h') (B : Blk) : Ev No n h (m + 1) (h'.set m B) := ⟨e.f.new B, by have := e.le; omega, fun c hc _ => by rw [H.get_set_ne _ _ (by have := e.le; omega)]; exact e.no hc⟩
theorem Ev.set {n m b : Nat} {h h' : H} (e : Ev No n h m h') (B : Blk) (h1 : n ≤ b) (h2 : b < m) : Ev No n h m (h'.set b B) := ⟨e.f.set B h2, e.le, fun c hc _ => by rw [H.get_set_ne _ _ (by omega)]; exact e.no hc⟩
end Go.Fw
end
section
set_option linter.unusedVariables false
namespace Go.Fn
open Go Go.Fw

variable {n : Nat} {h : H} {Q : Post} {K : V → St}

theorem Wp.ldN {γ : Type} {b o s : Nat} {f : List V → St} : Wp (bnd (rdN b o s) f) n h Q ↔ ldn (h.get b) o s fun cs => Wp (f cs) n h Q := by
  unfold Wp
  have e : (bnd (rdN b o s) f).run n h = Fw.ldN (h.get b) o s fun cs => (f cs).run n h := Fw.run_rdN
  rw [e]
  unfold Fw.ldN ldn
  cases h.get b with
  | none => simp
  | some B =>
    obtain ⟨cs, kd⟩ := B
    cases kd <;> simp <;> (by_cases ho : o + s ≤ cs.length <;> simp [ho])
theorem ldn_congr {x : Option Blk} {o s : Nat} {f g : List V → Prop} (e : ∀ cs, f cs ↔ g cs) : ldn x o s f ↔ ldn x o s g := by
  rw [show f = g from funext fun cs => propext (e cs)]
theorem Wp.ifI {b : Bool} {m : St} : Wp (bnd (if b then Fw.ret () else Fw.fail) fun _ => m) n h Q ↔ b = true ∧ Wp m n h Q := by
  cases b with
  | true => exact ⟨fun w => ⟨rfl, w⟩, fun w => w.2⟩
  | false =>
    refine ⟨fun ⟨_, _, _, e, _⟩ => ?_, fun w => absurd w.1 (by simp)⟩
    cases e
theorem Wp.chkI {b o : Nat} {v : V} {k : St} : Wp (kChk false (pt b o) v k) n h Q ↔ ldn (h.get b) o 1 fun cs => veqL cs [v] = true ∧ Wp k n h Q := by
  have e : kChk false (pt b o) v k = bnd (rdN b o 1) fun cs => bnd (if veqL cs [v] then Fw.ret () else Fw.fail) fun _ => k := bnd_assoc _ _ _
  rw [Wp.eq e, Wp.ldN (γ := Unit)]
  exact ldn_congr fun cs => Wp.ifI
theorem Wp.chkNI {b o : Nat} {vs : Array V} {k : St} : Wp (kChk true (pt b o) (.agg vs) k) n h Q ↔ ldn (h.get b) o vs.toList.length fun cs => veqL cs vs.toList = true ∧ Wp k n h Q := by
  have e : kChk true (pt b o) (.agg vs) k = bnd (rdN b o vs.toList.length) fun cs => bnd (if veqL cs vs.toList then Fw.ret () else Fw.fail) fun _ => k := bnd_assoc _ _ _
  rw [Wp.eq e, Wp.ldN (γ := Unit)]
  exact ldn_congr fun cs => Wp.ifI
theorem Wp.fieldI {vs : Array V} {i : Nat} : Wp (kField i (.agg vs) K) n h Q ↔ ∃ v, vs.toList[i]? = some v ∧ Wp (K v) n h Q := by
  unfold kField opField
  dsimp only
  cases vs.toList[i]? with
  | none => simpa using (show Wp (bnd Fw.fail K) n h Q ↔ False from Wp.failI)
  | some v =>
    simp only [Option.some.injEq, exists_eq_left']
    exact Iff.rfl
theorem Wp.fieldNI {vs : Array V} {i s : Nat} : Wp (kFieldN i s (.agg vs) K) n h Q ↔ (i + s ≤ vs.toList.length ∧ Wp (K (.agg ((vs.toList.drop i).take s).toArray)) n h Q) := by
  unfold kFieldN opFieldN
  dsimp only
  by_cases hc : i + s ≤ vs.toList.length
  · rw [if_pos hc]; exact ⟨fun w => ⟨hc, w⟩, fun w => w.2⟩
  · rw [if_neg hc]; exact ⟨fun w => absurd w Wp.failI.1, fun w => absurd w.1 hc⟩
theorem Wp.minI {K : V → St} {a b : Int} : Wp (kMin [i64 a, i64 b] K) n h Q ↔ Wp (K (i64 (if b < a then b else a))) n h Q := Iff.rfl

/-- Fields, looks. -/
theorem wpN :
    (∀ (n : Nat) (h : H) (Q : Post) (b o : Nat) (v : V) (k : St), Wp (kChk false (pt b o) v k) n h Q ↔ ldn (h.get b) o 1 fun cs => veqL cs [v] = true ∧ Wp k n h Q) ∧
    (∀ (n : Nat) (h : H) (Q : Post) (b o : Nat) (vs : Array V) (k : St), Wp (kChk true (pt b o) (.agg vs) k) n h Q ↔ ldn (h.get b) o vs.toList.length fun cs => veqL cs vs.toList = true ∧ Wp k n h Q) ∧
    (∀ (n : Nat) (h : H) (Q : Post) (K : V → St) (vs : Array V) (i : Nat), Wp (kField i (.agg vs) K) n h Q ↔ ∃ v, vs.toList[i]? = some v ∧ Wp (K v) n h Q) ∧
    (∀ (n : Nat) (h : H) (Q : Post) (K : V → St) (vs : Array V) (i s : Nat), Wp (kFieldN i s (.agg vs) K) n h Q ↔ (i + s ≤ vs.toList.length ∧ Wp (K (.agg ((vs.toList.drop i).take s).toArray)) n h Q)) ∧
    (∀ (n : Nat) (h : H) (Q : Post) (K : V → St) (a b : Int), Wp (kMin [i64 a, i64 b] K) n h Q ↔ Wp (K (i64 (if b < a then b else a))) n h Q) :=
  ⟨fun _ _ _ _ _ _ _ => Wp.chkI, fun _ _ _ _ _ _ _ => Wp.chkNI, fun _ _ _ _ _ _ => Wp.fieldI, fun _ _ _ _ _ _ _ => Wp.fieldNI, fun _ _ _ _ _ _ => Wp.minI⟩
theorem veq_i64 (a : Int) : veq (i64 a) (i64 a) = true := by simp [veq]
theorem veq_sl (b o l c : Nat) : veq (sl b o l c) (sl b o l c) = true := by simp [veq]
theorem veq_pt (b o : Nat) : veq (pt b o) (pt b o) = true := by simp [veq]
theorem veq_nsl : veq nsl nsl = true := by simp [veq]
theorem veqL_nil : veqL [] [] = true := rfl
theorem veqL_cons (a b : V) (r s : List V) : veqL (a :: r) (b :: s) = (veq a b && veqL r s) := rfl
/-- The looks. -/
theorem veqS : (∀ a : Int, veq (i64 a) (i64 a) = true) ∧ (∀ b o l c, veq (sl b o l c) (sl b o l c) = true) ∧ (∀ b o, veq (pt b o) (pt b o) = true) ∧ veq nsl nsl = true ∧ veqL [] [] = true ∧ (∀ (a b : V) (r s : List V), veqL (a :: r) (b :: s) = (veq a b && veqL r s)) := ⟨veq_i64, veq_sl, veq_pt, veq_nsl, veqL_nil, veqL_cons⟩
end Go.Fn
end
section
set_option linter.unusedVariables false
namespace Go.Fn
open Go Go.Fw

abbrev Ty := Int × Int
structure Ins where
  op : Int
  dst : Int
  a : Int
  b : Int
  n : Int
  args : List Int
structure Blo where
  code : List Ins
  fin : Int
  reg : Int
  to : Int
  els : Int
structure Fun where
  sig : Int
  regs : List Ty
  blocks : List Blo
structure Sg where
  params : List Ty
  res : Ty
structure Imp where
  rec_ : Int
  ifc : Int
  funcs : List Int
structure Pg where
  recs : List (List Ty)
  sigs : List Sg
  ifs : List (List Int)
  imps : List Imp
  funcs : List Fun
  main : Int

/-- A slice that may be looked at, in a block of which B holds: its elements, each of s cells. -/
def Sl (h : H) (B : Nat → Prop) (s : Nat) {α : Type} (E : List V → α → Prop) (v : V) (xs : List α) : Prop :=
  xs.length < 9223372036854775808 ∧ ((v = nsl ∧ xs = []) ∨ ∃ b o cap cs kd, v = sl b o xs.length cap ∧ (xs ≠ [] → B b ∧ h.get b = some ⟨cs, kd⟩ ∧ kd ≠ .dead ∧ o + xs.length * s ≤ cs.length) ∧ ∀ i x, xs[i]? = some x → E ((cs.drop (o + i * s)).take s) x)
abbrev SlR (h : H) (n0 s : Nat) {α : Type} (E : List V → α → Prop) (v : V) (xs : List α) : Prop := Sl h (· < n0) s E v xs

def IntC (cs : List V) (z : Int) : Prop := cs = [i64 z] ∧ Fit z
def TyC (cs : List V) (t : Ty) : Prop := cs = [i64 t.1, i64 t.2] ∧ Fit t.1 ∧ Fit t.2
def InsC (h : H) (n0 : Nat) (cs : List V) (x : Ins) : Prop := ∃ v, cs = [i64 x.op, i64 x.dst, i64 x.a, i64 x.b, i64 x.n, v] ∧ SlR h n0 1 IntC v x.args ∧ Fit x.op ∧ Fit x.dst ∧ Fit x.a ∧ Fit x.b ∧ Fit x.n
def BloC (h : H) (n0 : Nat) (cs : List V) (x : Blo) : Prop := ∃ v, cs = [v, i64 x.fin, i64 x.reg, i64 x.to, i64 x.els] ∧ SlR h n0 6 (InsC h n0) v x.code ∧ Fit x.fin ∧ Fit x.reg ∧ Fit x.to ∧ Fit x.els
def FunC (h : H) (n0 : Nat) (cs : List V) (x : Fun) : Prop := ∃ v w, cs = [i64 x.sig, v, w] ∧ SlR h n0 2 TyC v x.regs ∧ SlR h n0 5 (BloC h n0) w x.blocks ∧ Fit x.sig
def SgC (h : H) (n0 : Nat) (cs : List V) (x : Sg) : Prop := ∃ v, cs = [v, i64 x.res.1, i64 x.res.2] ∧ SlR h n0 2 TyC v x.params ∧ Fit x.res.1 ∧ Fit x.res.2
def ImpC (h : H) (n0 : Nat) (cs : List V) (x : Imp) : Prop := ∃ v, cs = [i64 x.rec_, i64 x.ifc, v] ∧ SlR h n0 1 IntC v x.funcs ∧ Fit x.rec_ ∧ Fit x.ifc
def RecC (h : H) (n0 : Nat) (cs : List V) (x : List Ty) : Prop := ∃ v, cs = [v] ∧ SlR h n0 2 TyC v x
def IfC (h : H) (n0 : Nat) (cs : List V) (x : List Int) : Prop := ∃ v, cs = [v] ∧ SlR h n0 1 IntC v x

/-- The program lies at p. -/
structure Prg (h : H) (n0 : Nat) (P : Pg) (bp : Nat) (vr vs vi vm vf : V) : Prop where
  lt : bp < n0
  at_ : h.get bp = some ⟨[vr, vs, vi, vm, vf, i64 P.main], .ro⟩
  recs : SlR h n0 1 (RecC h n0) vr P.recs
  sigs : SlR h n0 3 (SgC h n0) vs P.sigs
  ifs : SlR h n0 1 (IfC h n0) vi P.ifs
  imps : SlR h n0 3 (ImpC h n0) vm P.imps
  funcs : SlR h n0 3 (FunC h n0) vf P.funcs
  main : Fit P.main

/-! ## What is below n0 does not turn -/

def Kp (n0 : Nat) (h h' : H) : Prop := ∀ b, b < n0 → h'.get b = h.get b
theorem Kp.refl (n0 : Nat) (h : H) : Kp n0 h h := fun _ _ => rfl
theorem Kp.trans {n0 : Nat} {h h' h'' : H} (a : Kp n0 h h') (b : Kp n0 h' h'') : Kp n0 h h'' := fun c hc => (b c hc).trans (a c hc)

theorem Kp.set {n0 n : Nat} {h : H} {B : Blk} (hn : n0 ≤ n) : Kp n0 h (h.set n B) := fun b hb => H.get_set_ne _ _ (by omega)
theorem Kp.ev {n0 n n' : Nat} {h h' : H} (e : Ev No n h n' h') (hn : n0 ≤ n) : Kp n0 h h' := fun b hb => e.no (by omega)
theorem Ev.new1 {n : Nat} {h : H} (f : Fr n h) (B : Blk) : Ev No n h (n + 1) (h.set n B) := ⟨f.new B, by omega, fun c hc _ => H.get_set_ne _ _ (by omega)⟩
theorem Ev.more {n n1 n2 : Nat} {h h1 h2 : H} (a : Ev No n h n1 h1) (b : Ev No n1 h1 n2 h2) : Ev No n h n2 h2 := a.trans b fun _ _ h => h
theorem Sl.keep {h h' : H} {B B' : Nat → Prop} {s : Nat} {α : Type} {E E' : List V → α → Prop} {v : V} {xs : List α} (x : Sl h B s E v xs) (hB : ∀ b, B b → B' b) (k : ∀ b, B b → h'.get b = h.get b) (hE : ∀ cs y, E cs y → E' cs y) : Sl h' B' s E' v xs := by
  obtain ⟨h1, h2⟩ := x
  refine ⟨h1, ?_⟩
  rcases h2 with h2 | ⟨b, o, cap, cs, kd, h2, h3, h4⟩
  · exact .inl h2
  · exact .inr ⟨b, o, cap, cs, kd, h2, fun h0 => ⟨hB _ (h3 h0).1, by rw [k _ (h3 h0).1]; exact (h3 h0).2.1, (h3 h0).2.2⟩, fun i y hy => hE _ _ (h4 i y hy)⟩
theorem SlR.keep {h h' : H} {n0 s : Nat} {α : Type} {E E' : List V → α → Prop} {v : V} {xs : List α} (x : SlR h n0 s E v xs) (k : Kp n0 h h') (hE : ∀ cs y, E cs y → E' cs y) : SlR h' n0 s E' v xs := Sl.keep x (fun _ h => h) k hE
theorem InsC.keep {h h' : H} {n0 : Nat} (k : Kp n0 h h') (cs : List V) (x : Ins) (c : InsC h n0 cs x) : InsC h' n0 cs x := by
  obtain ⟨v, e, s, r⟩ := c
  exact ⟨v, e, s.keep k fun _ _ h => h, r⟩
theorem BloC.keep {h h' : H} {n0 : Nat} (k : Kp n0 h h') (cs : List V) (x : Blo) (c : BloC h n0 cs x) : BloC h' n0 cs x := by
  obtain ⟨v, e, s, r⟩ := c
  exact ⟨v, e, s.keep k (InsC.keep k), r⟩
theorem FunC.keep {h h' : H} {n0 : Nat} (k : Kp n0 h h') (cs : List V) (x : Fun) (c : FunC h n0 cs x) : FunC h' n0 cs x := by
  obtain ⟨v, w, e, s, t, r⟩ := c
  exact ⟨v, w, e, s.keep k fun _ _ h => h, t.keep k (BloC.keep k), r⟩
theorem SgC.keep {h h' : H} {n0 : Nat} (k : Kp n0 h h') (cs : List V) (x : Sg) (c : SgC h n0 cs x) : SgC h' n0 cs x := by
  obtain ⟨v, e, s, r⟩ := c
  exact ⟨v, e, s.keep k fun _ _ h => h, r⟩
theorem ImpC.keep {h h' : H} {n0 : Nat} (k : Kp n0 h h') (cs : List V) (x : Imp) (c : ImpC h n0 cs x) : ImpC h' n0 cs x := by
  obtain ⟨v, e, s, r⟩ := c
  exact ⟨v, e, s.keep k fun _ _ h => h, r⟩
theorem RecC.keep {h h' : H} {n0 : Nat} (k : Kp n0 h h') (cs : List V) (x : List Ty) (c : RecC h n0 cs x) : RecC h' n0 cs x := by
  obtain ⟨v, e, s⟩ := c
  exact ⟨v, e, s.keep k fun _ _ h => h⟩
theorem IfC.keep {h h' : H} {n0 : Nat} (k : Kp n0 h h') (cs : List V) (x : List Int) (c : IfC h n0 cs x) : IfC h' n0 cs x := by
  obtain ⟨v, e, s⟩ := c
  exact ⟨v, e, s.keep k fun _ _ h => h⟩
theorem Prg.keep {h h' : H} {n0 : Nat} {P : Pg} {bp : Nat} {vr vs vi vm vf : V} (p : Prg h n0 P bp vr vs vi vm vf) (k : Kp n0 h h') : Prg h' n0 P bp vr vs vi vm vf :=
  ⟨p.lt, by rw [k _ p.lt]; exact p.at_, p.recs.keep k (RecC.keep k), p.sigs.keep k (SgC.keep k), p.ifs.keep k (IfC.keep k), p.imps.keep k (ImpC.keep k), p.funcs.keep k (FunC.keep k), p.main⟩

/-! ## Reading -/

section
variable {n s : Nat} {h : H} {Q : Post} {K : V → St} {α : Type} {B : Nat → Prop} {E : List V → α → Prop} {v : V} {xs : List α}

theorem ldv_live {cs : List V} {kd : Kind} {o : Nat} (hk : kd ≠ .dead) : ldv (some ⟨cs, kd⟩) o = cs[o]? := by
  cases kd <;> first | rfl | exact absurd rfl hk
theorem Sl.len (x : Sl h B s E v xs) : Wp (kLen v K) n h Q ↔ Wp (K (i64 (xs.length : Int))) n h Q := by
  rcases x.2 with ⟨rfl, rfl⟩ | ⟨b, o, cap, cs, kd, rfl, _⟩
  · exact Wp.eq st_len
  · exact Wp.eq st_len
/-- An element's place, and what its cells are. -/
theorem Sl.at (x : Sl h B s E v xs) {i : Nat} {y : α} (hy : xs[i]? = some y) : ∃ b o cs kd es, (∀ (K : V → St) (n : Nat) (Q : Post), Wp (kIndexAddr s v (i64 (i : Int)) K) n h Q ↔ Wp (K (pt b o)) n h Q) ∧ h.get b = some ⟨cs, kd⟩ ∧ kd ≠ .dead ∧ E es y ∧
    (∀ f u, es[f]? = some u → cs[o + f]? = some u) ∧ B b ∧ o + s ≤ cs.length ∧ (cs.drop o).take s = es := by
  have hi := (List.getElem?_eq_some_iff.1 hy).1
  have h0 : xs ≠ [] := by rintro rfl; simp at hi
  rcases x.2 with ⟨rfl, rfl⟩ | ⟨b, o, cap, cs, kd, rfl, h1, h2⟩
  · exact absurd rfl h0
  · obtain ⟨g1, g2, gk, g3⟩ := h1 h0
    have hs : o + i * s + s ≤ cs.length := by
      have := Nat.mul_le_mul_right s hi
      rw [Nat.succ_mul] at this
      omega
    refine ⟨b, o + i * s, cs, kd, _, fun K n Q => Wp.eq ?_, g2, gk, h2 i y hy, fun f u hu => ?_, g1, hs, rfl⟩
    · show bnd _ _ = _
      rw [st_ix, if_pos (by omega), Int.toNat_natCast]
    · rw [List.getElem?_take] at hu
      split at hu
      · rw [List.getElem?_drop] at hu; exact hu
      · cases hu
theorem Sl.get {i : Nat} (hi : i < xs.length) : ∃ y, xs[i]? = some y ∧ xs.drop i = y :: xs.drop (i + 1) := ⟨xs[i], List.getElem?_eq_getElem hi, List.drop_eq_getElem_cons hi⟩
theorem wrap_succ {i : Nat} (hi : i < 9223372036854775807) : IntKind.i64.wrap ((i : Int) + 1) = ((i + 1 : Nat) : Int) := by rw [wrap64 (by omega)]; omega
end
end Go.Fn
end
section
set_option linter.unusedVariables false
namespace Go.Fn
open Go Go.Fw

variable {F n : Nat} {h : H} {Q : Post}

theorem in_wp {a b : Int} : Wp (R8_in F (i64 a) (i64 b)) n h Q ↔ Q (bo (decide (0 ≤ a ∧ a < b))) n h := by
  unfold R8_in
  simp only [wpS]
  by_cases h1 : 0 ≤ a <;> simp [h1]

abbrev tyV (t : Ty) : V := .agg #[i64 t.1, i64 t.2]
theorem eq_wp {t u : Ty} (f : Fr n h) (q : ∀ n' h', Ev No n h n' h' → Q (bo (decide (t = u))) n' h') : Wp (R8_eq F (tyV t) (tyV u)) n h Q := by
  unfold R8_eq
  have f1 := f.new ⟨[i64 t.1, i64 t.2], .own⟩
  have f2 := f1.new ⟨[i64 u.1, i64 u.2], .own⟩
  have ev : Ev No n h (n + 1 + 1) ((h.set n ⟨[i64 t.1, i64 t.2], .own⟩).set (n + 1) ⟨[i64 u.1, i64 u.2], .own⟩) := ⟨f2, by omega, fun c hc _ => by rw [H.get_set_ne _ _ (by omega), H.get_set_ne _ _ (by omega)]⟩
  refine Wp.boxN (cs := [i64 t.1, i64 t.2]) f rfl (Wp.boxN (cs := [i64 u.1, i64 u.2]) f1 rfl ?_)
  have := q _ _ ev
  obtain ⟨t1, t2⟩ := t
  obtain ⟨u1, u2⟩ := u
  simp [wpS, Wp.loadI, H.get_set, ldv_own]
  refine ⟨fun h1 => ?_, fun h1 => ?_⟩
  · subst h1
    simpa using this
  · simpa [h1] using this

/-! ## Is there an Impl? -/

def implF (r i : Int) : List Imp → Int → Int
  | [], _ => -1
  | m :: l, k => if m.rec_ = r ∧ m.ifc = i then k else implF r i l (k + 1)
def implP (P : Pg) (r i : Int) : Int := implF r i P.imps 0

theorem impl_wp {n0 : Nat} {P : Pg} {bp : Nat} {vr vs vi vm vf : V} (p : Prg h n0 P bp vr vs vi vm vf) {r i : Int} (hF : P.imps.length < F) (q : Q (i64 (implP P r i)) n h) : Wp (R8_Impl F (pt bp 0) (i64 r) (i64 i)) n h Q := by
  unfold R8_Impl
  simp only [wpS]
  refine Wp.loop4 (fun d x y z w n' h' => n' = n ∧ h' = h ∧ x = pt bp 0 ∧ y = i64 r ∧ z = i64 i ∧ ∃ j : Nat, w = i64 (j : Int) ∧ j + d = P.imps.length ∧ implP P r i = implF r i (P.imps.drop j) j) ?_ (d := P.imps.length) ⟨rfl, rfl, rfl, rfl, rfl, 0, rfl, by omega, rfl⟩ hF
  rintro d _ _ _ _ _ _ rec ⟨rfl, rfl, rfl, rfl, rfl, j, rfl, hj, hi⟩ hr
  have hlen := p.imps.1
  simp [wpS, Wp.loadI, p.at_, ldv_ro, p.imps.len]
  refine ⟨fun hlt => ?_, fun hge => ?_⟩
  · obtain ⟨m, hm, hd⟩ := Sl.get hlt
    obtain ⟨b, o, cs, kd, _, hix, hb, hk, ⟨v, rfl, _⟩, hcs, _⟩ := p.imps.at hm
    have c0 : cs[o]? = _ := hcs 0 _ rfl
    have c1 := hcs 1 _ rfl
    rw [hd] at hi
    simp [wpS, Wp.loadI, p.at_, ldv_ro, ldv_live hk, hix, hb, c0, c1, wrap_succ (show j < 9223372036854775807 by omega)]
    have go : ¬ (m.rec_ = r ∧ m.ifc = i) → Wp (rec (pt bp 0) (i64 r) (i64 i) (i64 ((j : Int) + 1))) _ _ Q := fun hne => by
      refine hr (d - 1) _ _ _ _ _ _ (by omega) ⟨rfl, rfl, rfl, rfl, rfl, j + 1, by simp, by omega, ?_⟩
      rw [hi, implF, if_neg hne]; simp
    refine ⟨fun h1 => ⟨fun h2 => ?_, fun h2 => go fun x => h2 x.2⟩, fun h1 => go fun x => h1 x.1⟩
    rw [hi, implF, if_pos ⟨h1, h2⟩] at q
    exact q
  · have : P.imps.drop j = [] := List.drop_eq_nil_of_le (by omega)
    rw [this] at hi
    have hi : implP P r i = -1 := hi
    rw [hi] at q
    exact q

/-! ## What types name -/

def namedP (P : Pg) (t : Ty) : Bool :=
  if t.1 = 0 then decide (t.2 = 0) else if t.1 = 1 then decide (0 ≤ t.2 ∧ t.2 < P.recs.length) else if t.1 = 2 then decide (0 ≤ t.2 ∧ t.2 < P.sigs.length) else if t.1 = 3 then decide (0 ≤ t.2 ∧ t.2 < P.ifs.length) else false

theorem named_wp {n0 : Nat} {P : Pg} {bp : Nat} {vr vs vi vm vf : V} (p : Prg h n0 P bp vr vs vi vm vf) {t : Ty} (f : Fr n h) (hn : n0 ≤ n) (q : ∀ n' h', Ev No n h n' h' → Q (bo (namedP P t)) n' h') : Wp (R8_named F (pt bp 0) (tyV t)) n h Q := by
  unfold R8_named
  refine Wp.boxN (cs := [i64 t.1, i64 t.2]) f rfl ?_
  have p1 := p.keep (Kp.set (B := ⟨[i64 t.1, i64 t.2], .own⟩) hn)
  have q1 := q _ _ (Ev.new1 f ⟨[i64 t.1, i64 t.2], .own⟩)
  have hne : bp ≠ n := by have := p.lt; omega
  obtain ⟨k, m⟩ := t
  simp [wpS, Wp.loadI, H.get_set, hne, ldv_own, ldv_ro, p.at_, p1.recs.len, p1.sigs.len, p1.ifs.len]
  unfold namedP at q1
  by_cases h0 : k = 0
  · subst h0; simpa using q1
  by_cases h1 : k = 1
  · subst h1; by_cases h2 : 0 ≤ m <;> simp_all <;> (intro; omega)
  by_cases h2 : k = 2
  · subst h2; by_cases h2 : 0 ≤ m <;> simp_all <;> (intro; omega)
  by_cases h3 : k = 3
  · subst h3; by_cases h2 : 0 ≤ m <;> simp_all <;> (intro; omega)
  simp_all
end Go.Fn
end
section
set_option linter.unusedVariables false
namespace Go.Fn
open Go Go.Fw

variable {F n : Nat} {h : H} {Q : Post}

theorem nowhere_wp (f : Fr n h) (q : ∀ n' h', Ev No n h n' h' → Q (.agg #[i64 (-1), i64 0, i64 0]) n' h') : Wp (R8_Nowhere F) n h Q := by
  unfold R8_Nowhere
  have e := ((Ev.start f).new ⟨[i64 0, i64 0, i64 0], .own⟩).set (b := n) ⟨[i64 (-1), i64 0, i64 0], .own⟩ (by omega) (by omega)
  have := q _ _ e
  simpa [wpS, wpM, Wp.ptrI, f, H.get_set, ldv, wst, ldn, wsn, fillA, oneS, over] using this

abbrev insV (x : Ins) (v : V) : V := .agg #[i64 x.op, i64 x.dst, i64 x.a, i64 x.b, i64 x.n, v]
def defP (x : Ins) : Option Int := if x.op < 1 ∨ 15 < x.op ∨ x.op = 8 ∨ x.op = 9 ∨ x.op = 15 then none else some x.dst
def optV : Option Int → V
  | none => .tuple #[i64 0, bo false]
  | some d => .tuple #[i64 d, bo true]
theorem def_wp {x : Ins} {v : V} (hv : one v = true) (f : Fr n h) (q : ∀ n' h', Ev No n h n' h' → Q (optV (defP x)) n' h') : Wp (R8_Def F (insV x v)) n h Q := by
  unfold R8_Def
  have := q _ _ ((Ev.start f).new ⟨[i64 x.op, i64 x.dst, i64 x.a, i64 x.b, i64 x.n, v], .own⟩)
  obtain ⟨op, dst, a, b, m, args⟩ := x
  simp [wpS, wpM, Wp.boxNI, f, hv, H.get_set, ldv, oneS]
  unfold defP at this
  by_cases h1 : op < 1
  · simp_all [optV]; omega
  by_cases h2 : 15 < op
  · simp_all [optV]; omega
  by_cases h3 : op = 8
  · simp_all [optV]
  by_cases h4 : op = 9
  · simp_all [optV]
  by_cases h5 : op = 15
  · simp_all [optV]
  simp_all [optV]
  omega

/-! ## The instruction at a point -/

def getI {α : Type} (l : List α) (z : Int) : Option α := if 0 ≤ z then l[z.toNat]? else none
theorem getI_nat {α : Type} (l : List α) (k : Nat) : getI l (k : Int) = l[k]? := by unfold getI; rw [if_pos (by omega)]; simp
theorem getI_cases {α : Type} (l : List α) (z : Int) : (getI l z = none ∧ ¬ (0 ≤ z ∧ z < l.length)) ∨ ∃ (k : Nat) (y : α), z = (k : Int) ∧ getI l z = some y ∧ l[k]? = some y ∧ k < l.length := by
  by_cases h0 : 0 ≤ z
  · obtain ⟨k, rfl⟩ : ∃ k : Nat, z = k := ⟨z.toNat, by omega⟩
    rw [getI_nat]
    by_cases hk : k < l.length
    · exact .inr ⟨k, l[k], rfl, List.getElem?_eq_getElem hk, List.getElem?_eq_getElem hk, hk⟩
    · exact .inl ⟨List.getElem?_eq_none (by omega), by omega⟩
  · exact .inl ⟨by unfold getI; rw [if_neg h0], by omega⟩

structure Pt where
  f : Int
  b : Int
  i : Int
  deriving DecidableEq
abbrev ptV (q : Pt) : V := .agg #[i64 q.f, i64 q.b, i64 q.i]
def codeP (P : Pg) (q : Pt) : Option Ins := (getI P.funcs q.f).bind fun f => (getI f.blocks q.b).bind fun b => getI b.code q.i
def FitI (x : Ins) : Prop := Fit x.op ∧ Fit x.dst ∧ Fit x.a ∧ Fit x.b ∧ Fit x.n

theorem code_wp {n0 : Nat} {P : Pg} {bp : Nat} {vr vs vi vm vf : V} (p : Prg h n0 P bp vr vs vi vm vf) {q : Pt} (f : Fr n h) (hn : n0 ≤ n)
    (q1 : codeP P q = none → ∀ n' h', Ev No n h n' h' → Q (.tuple #[.agg #[i64 0, i64 0, i64 0, i64 0, i64 0, nsl], bo false]) n' h')
    (q2 : ∀ x v, codeP P q = some x → SlR h n0 1 IntC v x.args → FitI x → one v = true → ∀ n' h', Ev No n h n' h' → Q (.tuple #[insV x v, bo true]) n' h') : Wp (R8_Code F (pt bp 0) (ptV q)) n h Q := by
  unfold R8_Code
  obtain ⟨qf, qb, qi⟩ := q
  have e := ((Ev.start f).new ⟨[i64 qf, i64 qb, i64 qi], .own⟩).new ⟨[i64 0, i64 0, i64 0, i64 0, i64 0, nsl], .own⟩
  have p1 := p.keep (Kp.ev e hn)
  have hne : bp ≠ n := by have := p.lt; omega
  have hne1 : bp ≠ n + 1 := by have := p.lt; omega
  have e1 := fun B => e.set (b := n + 1) B (by omega) (by omega)
  refine (Wp.boxNI f).2 ⟨by simp [oneS], (Wp.ptrI (f.new _)).2 ⟨by simp [oneS], ?_⟩⟩
  generalize hh : (h.set n ⟨[i64 qf, i64 qb, i64 qi], .own⟩).set (n + 1) ⟨[i64 0, i64 0, i64 0, i64 0, i64 0, nsl], .own⟩ = h1 at p1 e1 ⊢
  have g0 : h1.get n = some ⟨[i64 qf, i64 qb, i64 qi], .own⟩ := by rw [← hh, H.get_set_ne _ _ (by omega), H.get_set_same]
  have g1 : h1.get (n + 1) = some ⟨[i64 0, i64 0, i64 0, i64 0, i64 0, nsl], .own⟩ := by rw [← hh, H.get_set_same]
  have w1 := fun hc => q1 hc _ _ (e1 ⟨[i64 0, i64 0, i64 0, i64 0, i64 0, nsl], .own⟩)
  rcases getI_cases P.funcs qf with ⟨c1, c2⟩ | ⟨kf, fn, rfl, c1, c2, c3⟩
  · have w := w1 (by unfold codeP; rw [c1]; rfl)
    by_cases c3 : qf < 0
    · simpa [wpS, wpM, g0, g1, ldv_own, wsn, ldn, fillA, oneS, over, c3] using w
    · have c4 : ¬ qf < P.funcs.length := by omega
      simp [wpS, wpM, g0, g1, ldv_own, ldv_ro, wsn, ldn, fillA, oneS, over, c3, p1.at_, p1.funcs.len]
      simpa using ⟨fun _ => w, fun q => absurd q c4⟩
  obtain ⟨b1, o1, cs1, kd1, _, hix1, hb1, hk1, ⟨vg, vb, rfl, sr, sb, _⟩, hcs1, _⟩ := p1.funcs.at c2
  have f2 := hcs1 2 _ rfl
  have f3 : ¬ (P.funcs.length : Int) ≤ (kf : Int) := by omega
  rcases getI_cases fn.blocks qb with ⟨c4, c5⟩ | ⟨kb, bl, rfl, c4, c5, c6⟩
  · have w := w1 (by unfold codeP; rw [c1]; show (getI fn.blocks qb).bind _ = none; rw [c4]; rfl)
    by_cases c6 : qb < 0
    · simpa [wpS, wpM, g0, g1, ldv_own, ldv_ro, wsn, ldn, fillA, oneS, over, p1.at_, p1.funcs.len, nnS, f3, c6, hix1, hb1, ldv_live hk1, f2] using w
    · have c7 : (fn.blocks.length : Int) ≤ qb := by omega
      simpa [wpS, wpM, g0, g1, ldv_own, ldv_ro, wsn, ldn, fillA, oneS, over, p1.at_, p1.funcs.len, nnS, f3, c6, hix1, hb1, ldv_live hk1, f2, sb.len, c7] using w
  obtain ⟨b2, o2, cs2, kd2, _, hix2, hb2, hk2, ⟨vc, rfl, sc, _⟩, hcs2, _⟩ := sb.at c5
  have f4 : cs2[o2]? = _ := hcs2 0 _ rfl
  have f5 : ¬ (fn.blocks.length : Int) ≤ (kb : Int) := by omega
  rcases getI_cases bl.code qi with ⟨c7, c8⟩ | ⟨ki, x, rfl, c7, c8, c9⟩
  · have w := w1 (by unfold codeP; rw [c1]; show (getI fn.blocks _).bind _ = none; rw [c4]; exact c7)
    by_cases c9 : qi < 0
    · simpa [wpS, wpM, g0, g1, ldv_own, ldv_ro, wsn, ldn, fillA, oneS, over, p1.at_, p1.funcs.len, nnS, f3, hix1, hb1, ldv_live hk1, f2, sb.len, f5, hix2, hb2, ldv_live hk2, f4, c9] using w
    · have c7 : (bl.code.length : Int) ≤ qi := by omega
      simpa [wpS, wpM, g0, g1, ldv_own, ldv_ro, wsn, ldn, fillA, oneS, over, p1.at_, p1.funcs.len, nnS, f3, hix1, hb1, ldv_live hk1, f2, sb.len, f5, hix2, hb2, ldv_live hk2, f4, c9, sc.len, c7] using w
  obtain ⟨b3, o3, cs3, kd3, es, hix3, hb3, hk3, ⟨va, he, sa, fit⟩, hcs3, _, hl3, hd3⟩ := sc.at c8
  have f6 : ¬ (bl.code.length : Int) ≤ (ki : Int) := by omega
  have hva : one va = true := by
    rcases sa.2 with ⟨rfl, _⟩ | ⟨_, _, _, _, _, rfl, _⟩ <;> rfl
  have w := q2 x va (by unfold codeP; rw [c1]; show (getI fn.blocks _).bind _ = some x; rw [c4]; exact c7) (by
    have : Kp n0 h1 h := fun b hb => ((Kp.ev e hn) b hb ▸ (by rw [← hh]))
    exact sa.keep this fun _ _ q => q) fit hva _ _ (e1 ⟨[i64 x.op, i64 x.dst, i64 x.a, i64 x.b, i64 x.n, va], .own⟩)
  rw [he] at hd3
  simpa [wpS, wpM, g0, g1, ldv_own, ldv_ro, wsn, ldn, fillA, oneS, over, p1.at_, p1.funcs.len, nnS, f3, hix1, hb1, ldv_live hk1, f2, sb.len, f5, hix2, hb2, ldv_live hk2, f4, sc.len, f6, hix3, hb3, ldn_live hk3, hl3, hd3, hva] using w
end Go.Fn
end
section
set_option linter.unusedVariables false
namespace Go.Fn
open Go Go.Fw

variable {n : Nat} {h : H} {Q : Post} {K : V → St}

/-- A slice of m elements, s cells each, and all its cells. -/
def Cel (h : H) (s : Nat) (v : V) (m : Nat) (cs : List V) : Prop :=
  cs.length = m * s ∧ ((v = nsl ∧ m = 0) ∨ ∃ b o cap, v = sl b o m cap ∧ (m ≠ 0 → ∃ xs kd, h.get b = some ⟨xs, kd⟩ ∧ kd ≠ .dead ∧ o + m * s ≤ xs.length ∧ (xs.drop o).take (m * s) = cs))

theorem Cel.run {s m : Nat} {v : V} {cs : List V} (c : Cel h s v m cs) : (cellsOf s v).run n h = some (cs, n, h) := by
  obtain ⟨hl, ⟨rfl, rfl⟩ | ⟨b, o, cap, rfl, hb⟩⟩ := c
  · rw [Nat.zero_mul] at hl
    rw [List.eq_nil_of_length_eq_zero hl]; rfl
  · show (if m = 0 then Fw.ret [] else rdN b o (m * s)).run n h = _
    by_cases h0 : m = 0
    · subst h0
      rw [Nat.zero_mul] at hl
      rw [if_pos rfl, List.eq_nil_of_length_eq_zero hl]; rfl
    · obtain ⟨xs, kd, g1, g2, g3, g4⟩ := hb h0
      rw [if_neg h0]
      show rdNF b o (m * s) n h = _
      unfold rdNF
      rw [g1]
      cases kd <;> simp_all

theorem opApp_eq {s bytes : Nat} {v w : V} {q : Bool} (e : (roomy s v w).run n h = some (q, n, h)) : (kApp s bytes v w K).run n h = (if q then bnd (opAppIn s bytes v w) K else bnd (opAppend s bytes v w) K).run n h := by
  show (bnd (bnd (roomy s v w) fun q => if q then opAppIn s bytes v w else opAppend s bytes v w) K).run n h = _
  rw [bnd_assoc, run_bnd e]
  cases q <;> rfl

/-- To nothing, or to what has no room: all goes into a new block. -/
theorem Wp.appNew {s bytes l m : Nat} {v w : V} {olds news : List V} (ho : Cel h s v l olds) (hv : v = nsl ∨ ∃ b o cap, v = sl b o l cap ∧ cap < l + m ∧ cap < U) (hw : Cel h s w m news) (hm : m ≠ 0) (f : Fr n h) (ha : (olds ++ news).all one = true)
    (hb : l + m ≤ 1099511627776 ∧ (l + m) * bytes ≤ 70368744177664) (k : Wp (K (sl n 0 (l + m) (U + s))) (n + 1) (h.set n ⟨olds ++ news, .grow⟩) Q) : Wp (kApp s bytes v w K) n h Q := by
  have hw2 := hw
  obtain ⟨_, ⟨_, h0⟩ | ⟨xb, xo, xc, rfl, _⟩⟩ := hw2
  · exact absurd h0 hm
  have hr : (roomy s v (sl xb xo m xc)).run n h = some (false, n, h) := by
    rcases hv with rfl | ⟨b, o, cap, rfl, h1, h2⟩
    · rfl
    · show (if cap = U + s ∧ m ≠ 0 then room b (o + (l + m) * s) else ret false).run n h = _
      rw [if_neg (by omega)]; rfl
  refine Wp.of (opApp_eq hr) ?_
  rw [if_neg (by decide)]
  refine Wp.of ?_ k
  rcases hv with rfl | ⟨b, o, cap, rfl, h1, h2⟩
  · have hl : l = 0 := by
      obtain ⟨_, ⟨_, h0⟩ | ⟨b, o, cap, e, _⟩⟩ := ho
      · exact h0
      · cases e
    subst hl
    show (bnd (if m = 0 then _ else if 0 + m ≤ 1099511627776 ∧ (0 + m) * bytes ≤ 70368744177664 then bnd (cellsOf s (sl xb xo m xc)) (fun news => if 0 = U + s then fail else if 0 < 0 + m then bnd (cellsOf s nsl) fun olds => bnd (new (olds ++ news) .grow) fun c => ret (.slice (some ⟨c, 0, none⟩) (0 + m) (U + s)) else _) else fail) K).run n h = _
    rw [if_neg hm, if_pos hb, bnd_assoc, run_bnd hw.run, if_neg (by unfold U; omega), if_pos (by omega), bnd_assoc, run_bnd ho.run, bnd_assoc, run_new f ha]
    rfl
  · show (bnd (if m = 0 then _ else if l + m ≤ 1099511627776 ∧ (l + m) * bytes ≤ 70368744177664 then bnd (cellsOf s (sl xb xo m xc)) (fun news => if cap = U + s then _ else if cap < l + m then bnd (cellsOf s (sl b o l cap)) fun olds => bnd (new (olds ++ news) .grow) fun c => ret (.slice (some ⟨c, 0, none⟩) (l + m) (U + s)) else _) else fail) K).run n h = _
    rw [if_neg hm, if_pos hb, bnd_assoc, run_bnd hw.run, if_neg (by omega), if_pos h1, bnd_assoc, run_bnd ho.run, bnd_assoc, run_new f ha]
    rfl

/-- To what an append made, all of whose cells are in it: into a new block, and the old one is nobody's any more. -/
theorem Wp.appGrow {s bytes l m b : Nat} {w : V} {olds news : List V} (hb0 : h.get b = some ⟨olds, .grow⟩) (hl : olds.length = l * s) (hs : 0 < s) (hw : Cel h s w m news) (hm : m ≠ 0) (f : Fr n h) (ha : (olds ++ news).all one = true)
    (hb : l + m ≤ 1099511627776 ∧ (l + m) * bytes ≤ 70368744177664) (k : Wp (K (sl n 0 (l + m) (U + s))) (n + 1) ((h.set b dead).set n ⟨olds ++ news, .grow⟩) Q) : Wp (kApp s bytes (sl b 0 l (U + s)) w K) n h Q := by
  have hw2 := hw
  obtain ⟨_, ⟨_, h0⟩ | ⟨xb, xo, xc, rfl, _⟩⟩ := hw2
  · exact absurd h0 hm
  have hms : 0 < m * s := Nat.mul_pos (by omega) hs
  have hr : (roomy s (sl b 0 l (U + s)) (sl xb xo m xc)).run n h = some (false, n, h) := by
    show (if U + s = U + s ∧ m ≠ 0 then room b (0 + (l + m) * s) else ret false).run n h = _
    rw [if_pos ⟨rfl, hm⟩]
    show roomF b (0 + (l + m) * s) n h = _
    unfold roomF
    rw [hb0]
    have : ¬ (0 + (l + m) * s ≤ olds.length) := by rw [hl, Nat.add_mul]; omega
    simp [this]
    rw [hl, Nat.add_mul]; omega
  have ho : Cel h s (sl b 0 l (U + s)) l olds := ⟨hl, .inr ⟨b, 0, U + s, rfl, fun _ => ⟨olds, .grow, hb0, by decide, by omega, by rw [List.drop_zero, List.take_of_length_le (by omega)]⟩⟩⟩
  refine Wp.of (opApp_eq hr) ?_
  rw [if_neg (by decide)]
  refine Wp.of ?_ k
  show (bnd (if m = 0 then _ else if l + m ≤ 1099511627776 ∧ (l + m) * bytes ≤ 70368744177664 then bnd (cellsOf s (sl xb xo m xc)) (fun news => if U + s = U + s then bnd (cellsOf s (sl b 0 l (U + s))) fun olds => bnd (kill b) fun _ => bnd (new (olds ++ news) .grow) fun c => ret (.slice (some ⟨c, 0, none⟩) (l + m) (U + s)) else _) else fail) K).run n h = _
  have hkill : (kill b).run n h = some ((), n, h.set b dead) := by
    show killF b n h = _
    unfold killF
    rw [hb0]
  rw [if_neg hm, if_pos hb, bnd_assoc, run_bnd hw.run, if_pos rfl, bnd_assoc, run_bnd ho.run, bnd_assoc, run_bnd hkill, bnd_assoc, run_new (f.set _ (f.lt hb0)) ha]
  rfl

/-- Nothing is appended. -/
theorem Wp.appNone {s bytes : Nat} {v w : V} (hv : v = nsl ∨ ∃ b o l cap, v = sl b o l cap ∧ (cap = U + s ∨ cap < U)) (hw : ∃ a cap, w = .slice a 0 cap) (k : Wp (K v) n h Q) : Wp (kApp s bytes v w K) n h Q := by
  obtain ⟨a, c, rfl⟩ := hw
  have hr : (roomy s v (.slice a 0 c)).run n h = some (false, n, h) := by
    rcases hv with rfl | ⟨b, o, l, cap, rfl, h1⟩
    · rfl
    · show (if cap = U + s ∧ 0 ≠ 0 then room b (o + (l + 0) * s) else ret false).run n h = _
      rw [if_neg (by omega)]; rfl
  refine Wp.of (opApp_eq hr) ?_
  rw [if_neg (by decide)]
  refine Wp.of ?_ k
  rcases hv with rfl | ⟨b, o, l, cap, rfl, h1⟩
  · rfl
  · show (bnd (if cap = U + s ∨ cap < U then ret (.slice (some ⟨b, o, none⟩) l cap) else fail) K).run n h = _
    rw [if_pos h1]; rfl

/-! ## Lists that grow -/

/-- A list that an append made, in a block from lo on that is nobody else's: its elements, s cells each. -/
def Gs (h : H) (lo s : Nat) {α : Type} (E : List V → α → Prop) (v : V) (xs : List α) : Prop :=
  (xs = [] ∧ v = nsl) ∨ ∃ b cs, v = sl b 0 xs.length (U + s) ∧ xs ≠ [] ∧ lo ≤ b ∧ h.get b = some ⟨cs, .grow⟩ ∧ cs.length = xs.length * s ∧ cs.all one = true ∧ ∀ i x, xs[i]? = some x → E ((cs.drop (i * s)).take s) x
/-- v's block is c. -/
def InB (v : V) (c : Nat) : Prop := ∃ o l cap, v = sl c o l cap

theorem Gs.nil {lo s : Nat} {α : Type} {E : List V → α → Prop} : Gs h lo s E nsl [] := .inl ⟨rfl, rfl⟩
theorem Gs.keep {h' : H} {lo s : Nat} {α : Type} {E E' : List V → α → Prop} {v : V} {xs : List α} (g : Gs h lo s E v xs) (k : ∀ c, InB v c → h'.get c = h.get c) (hE : ∀ cs y, E cs y → E' cs y) : Gs h' lo s E' v xs := by
  rcases g with g | ⟨b, cs, rfl, g0, g1, g2, g3, g4, g5⟩
  · exact .inl g
  · exact .inr ⟨b, cs, rfl, g0, g1, by rw [k b ⟨_, _, _, rfl⟩]; exact g2, g3, g4, fun i x hx => hE _ _ (g5 i x hx)⟩
theorem Gs.lt {lo s : Nat} {α : Type} {E : List V → α → Prop} {v : V} {xs : List α} (g : Gs h lo s E v xs) (f : Fr n h) {c : Nat} (hc : InB v c) : lo ≤ c ∧ c < n := by
  obtain ⟨o, l, cap, rfl⟩ := hc
  rcases g with ⟨_, e⟩ | ⟨b, cs, e, g0, g1, g2, _⟩
  · cases e
  · cases e; exact ⟨g1, f.lt g2⟩
theorem Gs.one {lo s : Nat} {α : Type} {E : List V → α → Prop} {v : V} {xs : List α} (g : Gs h lo s E v xs) : Fw.one v = true := by
  rcases g with ⟨_, rfl⟩ | ⟨b, cs, rfl, _⟩ <;> rfl

theorem Gs.push {n0 s bytes : Nat} {h0 : H} {α : Type} {E : List V → α → Prop} {v : V} {xs : List α} {x : α} {z es : List V} {ps : List (Nat × Nat × Bool × V)} (e : Ev No n0 h0 n h) (g : Gs h n0 s E v xs) (hfill : fillA z ps = some es) (hes : es.length = s) (hs : 0 < s) (hone : es.all Fw.one = true) (hx : E es x)
    (hb : xs.length < 1000000 ∧ bytes ≤ 1000) (k : ∀ h' v', Ev No n0 h0 (n + 2) h' → Gs h' n0 s E v' (xs ++ [x]) → v' ≠ nsl → (∀ c, c < n → ¬ InB v c → h'.get c = h.get c) → (∀ c, InB v' c → n ≤ c) → Wp (K v') (n + 2) h' Q) :
    Wp (kBuildSlice 1 z ps fun t => kApp s bytes v t K) n h Q := by
  refine (Wp.buildSliceI e.f).2 ⟨es, hfill, hone, ?_⟩
  have e1 := e.new ⟨es, .own⟩
  have hc : Cel (h.set n ⟨es, .own⟩) s (sl n 0 1 1) 1 es := ⟨by omega, .inr ⟨n, 0, 1, rfl, fun _ => ⟨es, .own, H.get_set_same _ _ _, by decide, by omega, by rw [List.drop_zero, List.take_of_length_le (by omega)]⟩⟩⟩
  have hle := e.le
  have hsz : xs.length + 1 ≤ 1099511627776 ∧ (xs.length + 1) * bytes ≤ 70368744177664 := ⟨by omega, by
    have : (xs.length + 1) * bytes ≤ 1000000 * 1000 := Nat.mul_le_mul (by omega) hb.2
    omega⟩
  rcases g with ⟨rfl, rfl⟩ | ⟨b, cs, rfl, g0, g1, g2, g3, g4, g5⟩
  · refine Wp.appNew (l := 0) (m := 1) (olds := []) ⟨by simp, .inl ⟨rfl, rfl⟩⟩ (.inl rfl) hc (by decide) e1.f (by simpa using hone) (by simpa using hsz) ?_
    refine k _ _ (e1.new _) (.inr ⟨n + 1, [] ++ es, rfl, by simp, by omega, H.get_set_same _ _ _, by simp; omega, by simpa using hone, fun i y hy => ?_⟩) (by intro q; cases q) (fun c hc _ => by rw [H.get_set_ne _ _ (by omega), H.get_set_ne _ _ (by omega)]) (fun c hc => by obtain ⟨_, _, _, q⟩ := hc; cases q; omega)
    have hi : i = 0 := by
      have := (List.getElem?_eq_some_iff.1 hy).1
      simp at this; exact this
    subst hi
    cases hy
    rw [List.nil_append, Nat.zero_mul, List.drop_zero, List.take_of_length_le (by omega)]
    exact hx
  · have hbn := e.f.lt g2
    have g2' : (h.set n ⟨es, .own⟩).get b = some ⟨cs, .grow⟩ := by rw [H.get_set_ne _ _ (by omega)]; exact g2
    refine Wp.appGrow (l := xs.length) (m := 1) g2' g3 hs hc (by decide) e1.f (by rw [List.all_append, g4, hone]; rfl) hsz ?_
    refine k _ _ ((e1.set (b := b) dead (by omega) (by omega)).new _) (.inr ⟨n + 1, cs ++ es, by simp, by simp, by omega, H.get_set_same _ _ _, by rw [List.length_append, List.length_append, g3, hes, List.length_singleton, Nat.add_mul]; omega, by rw [List.all_append, g4, hone]; rfl, fun i y hy => ?_⟩) (by intro q; cases q)
      (fun c hc hn => by rw [H.get_set_ne _ _ (by omega), H.get_set_ne _ _ (fun q => hn ⟨0, xs.length, U + s, by rw [q]⟩), H.get_set_ne _ _ (by omega)]) (fun c hc => by obtain ⟨_, _, _, q⟩ := hc; cases q; omega)
    rcases Nat.lt_or_ge i xs.length with hi | hi
    · rw [List.getElem?_append_left hi] at hy
      have := g5 i y hy
      have hle2 : i * s + s ≤ cs.length := by
        have := Nat.mul_le_mul_right s hi
        rw [Nat.succ_mul] at this; omega
      rw [List.drop_append_of_le_length (by omega), List.take_append_of_le_length (by rw [List.length_drop]; omega)]
      exact this
    · have hlt := (List.getElem?_eq_some_iff.1 hy).1
      have hi2 : i = xs.length := by simp at hlt; omega
      subst hi2
      rw [List.getElem?_append_right (Nat.le_refl _)] at hy
      simp at hy
      subst hy
      rw [← g3, List.drop_left, List.take_of_length_le (by omega)]
      exact hx
end Go.Fn
end
section
set_option linter.unusedVariables false
namespace Go.Fn
open Go Go.Fw

variable {F n : Nat} {h : H} {Q : Post}

def ptsI (f b : Nat) (i m : Nat) : List Pt := (List.range' i m).map fun (i : Nat) => ⟨f, b, i⟩
def ptsBs (f : Nat) : List Blo → Nat → List Pt
  | [], _ => []
  | b :: r, k => ptsI f k 0 (b.code.length + 1) ++ ptsBs f r (k + 1)
def ptsFs : List Fun → Nat → List Pt
  | [], _ => []
  | x :: r, f => ptsBs f x.blocks 0 ++ ptsFs r (f + 1)
def pointsP (P : Pg) : List Pt := ptsFs P.funcs 0
def PtC (cs : List V) (q : Pt) : Prop := cs = [i64 q.f, i64 q.b, i64 q.i]

theorem points_wp {n0 : Nat} {P : Pg} {bp : Nat} {vr vs vi vm vf : V} (p : Prg h n0 P bp vr vs vi vm vf) (f : Fr n h) (hn : n0 ≤ n) (hP : (pointsP P).length < 100000) (hF : 100000 < F) (hf : P.funcs.length < 100000) (hb : ∀ x ∈ P.funcs, x.blocks.length < 100000)
    (q : ∀ n' h' v, Ev No n h n' h' → Gs h' n 3 PtC v (pointsP P) → Q v n' h') : Wp (R8_Points F (pt bp 0)) n h Q := by
  unfold R8_Points
  simp only [wpS]
  refine Wp.loop3 (fun d x y z n' h' => Ev No n h n' h' ∧ x = pt bp 0 ∧ ∃ (k : Nat) (l : List Pt), z = i64 (k : Int) ∧ k + d = P.funcs.length ∧ Gs h' n 3 PtC y l ∧ l ++ ptsFs (P.funcs.drop k) k = pointsP P) ?_ (d := P.funcs.length) ⟨Ev.start f, rfl, 0, [], rfl, by omega, Gs.nil, rfl⟩ (by omega)
  rintro d _ y _ n1 h1 rec ⟨e1, rfl, k, l, rfl, hk, g1, hl⟩ hr
  have p1 := p.keep (Kp.ev e1 hn)
  simp [wpS, wpM, p1.at_, ldv_ro, p1.funcs.len]
  refine ⟨fun hlt => ?_, fun hge => ?_⟩
  case refine_2 =>
    have : P.funcs.drop k = [] := List.drop_eq_nil_of_le (by omega)
    rw [this] at hl
    have hl : l ++ [] = pointsP P := hl
    rw [List.append_nil] at hl
    subst hl
    exact q _ _ _ e1 g1
  obtain ⟨fn, hfn, hd⟩ := Sl.get hlt
  rw [hd] at hl
  have hl : l ++ (ptsBs k fn.blocks 0 ++ ptsFs (P.funcs.drop (k + 1)) (k + 1)) = pointsP P := hl
  have hbl := hb fn (List.mem_of_getElem? hfn)
  refine Wp.loop4 (fun d2 x y z w n' h' => Ev No n h n' h' ∧ x = pt bp 0 ∧ z = i64 (k : Int) ∧ ∃ (b : Nat) (l : List Pt), w = i64 (b : Int) ∧ b + d2 = fn.blocks.length ∧ Gs h' n 3 PtC y l ∧ l ++ (ptsBs k (fn.blocks.drop b) b ++ ptsFs (P.funcs.drop (k + 1)) (k + 1)) = pointsP P) ?_ (d := fn.blocks.length) ⟨e1, rfl, rfl, 0, l, rfl, by omega, g1, hl⟩ (by omega)
  rintro d2 _ y _ _ n2 h2 rec2 ⟨e2, rfl, rfl, b, l2, rfl, hb2, g2, hl2⟩ hr2
  have p2 := p.keep (Kp.ev e2 hn)
  obtain ⟨b1, o1, cs1, kd1, _, hix1, hb1, hk1, ⟨vg, vb, rfl, sr, sb, _⟩, hcs1, _⟩ := p2.funcs.at hfn
  have f2 := hcs1 2 _ rfl
  simp [wpS, wpM, p2.at_, ldv_ro, hix1, hb1, ldv_live hk1, f2, sb.len, wrap_succ (show k < 9223372036854775807 by omega)]
  refine ⟨fun hlt2 => ?_, fun hge2 => ?_⟩
  case refine_2 =>
    have : fn.blocks.drop b = [] := List.drop_eq_nil_of_le (by omega)
    rw [this] at hl2
    exact hr (d - 1) _ _ _ _ _ (by omega) ⟨e2, rfl, k + 1, l2, by simp, by omega, g2, hl2⟩
  obtain ⟨bl, hbl2, hd2⟩ := Sl.get hlt2
  rw [hd2] at hl2
  have hl2 : l2 ++ ((ptsI k b 0 (bl.code.length + 1) ++ ptsBs k (fn.blocks.drop (b + 1)) (b + 1)) ++ ptsFs (P.funcs.drop (k + 1)) (k + 1)) = pointsP P := hl2
  have hcl : bl.code.length + 1 ≤ (pointsP P).length := by rw [← hl2]; simp [ptsI]; omega
  refine Wp.loop5 (fun d3 x y z w u n' h' => Ev No n h n' h' ∧ x = pt bp 0 ∧ z = i64 (k : Int) ∧ w = i64 (b : Int) ∧ ∃ (i : Nat) (l : List Pt), u = i64 (i : Int) ∧ i + d3 = bl.code.length + 1 ∧ Gs h' n 3 PtC y l ∧ l ++ ((ptsI k b i d3 ++ ptsBs k (fn.blocks.drop (b + 1)) (b + 1)) ++ ptsFs (P.funcs.drop (k + 1)) (k + 1)) = pointsP P) ?_ (d := bl.code.length + 1) ⟨e2, rfl, rfl, rfl, 0, l2, rfl, by omega, g2, hl2⟩ (by omega)
  rintro d3 _ y _ _ _ n3 h3 rec3 ⟨e3, rfl, rfl, rfl, i, l3, rfl, hi3, g3, hl3⟩ hr3
  have p3 := p.keep (Kp.ev e3 hn)
  obtain ⟨b3, o3, cs3, kd3, _, hix3, hb3, hk3, ⟨vg3, vb3, rfl, sr3, sb3, _⟩, hcs3, _⟩ := p3.funcs.at hfn
  have f3 := hcs3 2 _ rfl
  obtain ⟨b4, o4, cs4, kd4, _, hix4, hb4, hk4, ⟨vc, rfl, sc, _⟩, hcs4, _⟩ := sb3.at hbl2
  have f4 : cs4[o4]? = _ := hcs4 0 _ rfl
  simp [wpS, wpM, p3.at_, ldv_ro, hix3, hb3, ldv_live hk3, f3, hix4, hb4, ldv_live hk4, f4, sc.len, wrap_succ (show b < 9223372036854775807 by omega), wrap_succ (show i < 9223372036854775807 by omega), fillA, oneS]
  refine ⟨fun hle => ?_, fun hgt => ?_⟩
  · obtain ⟨d4, rfl⟩ : ∃ d4, d3 = d4 + 1 := ⟨d3 - 1, by omega⟩
    have hl3 : l3 ++ (((⟨k, b, i⟩ :: ptsI k b (i + 1) d4) ++ ptsBs k (fn.blocks.drop (b + 1)) (b + 1)) ++ ptsFs (P.funcs.drop (k + 1)) (k + 1)) = pointsP P := hl3
    refine Gs.push (x := Pt.mk k b i) (E := PtC) (es := [i64 k, i64 b, i64 i]) e3 g3 (by simp [fillA, rep, over]) rfl (by decide) (by simp [oneS]) rfl ⟨by have := congrArg List.length hl3; simp at this; omega, by decide⟩ fun h' v' e' g' _ _ _ => ?_
    refine hr3 d4 _ _ _ _ _ _ _ (by omega) ⟨e', rfl, rfl, rfl, i + 1, _, by simp [wrap_succ (show i < 9223372036854775807 by omega)], by omega, g', ?_⟩
    rw [← hl3]; simp
  · have hd0 : d3 = 0 := by omega
    subst hd0
    exact hr2 (d2 - 1) _ _ _ _ _ _ (by omega) ⟨e3, rfl, rfl, b + 1, l3, by simp, by omega, g3, by rw [← hl3]; simp [ptsI]⟩
end Go.Fn
end
section
set_option linter.unusedVariables false
namespace Go.Fn
open Go Go.Fw

variable {F n : Nat} {h : H} {Q : Post}

theorem Gs.sl {lo s : Nat} {α : Type} {E : List V → α → Prop} {v : V} {xs : List α} (g : Gs h lo s E v xs) (hb : xs.length < 9223372036854775808) : Sl h (InB v) s E v xs := by
  refine ⟨hb, ?_⟩
  rcases g with ⟨rfl, rfl⟩ | ⟨b, cs, rfl, g0, g1, g2, g3, g4, g5⟩
  · exact .inl ⟨rfl, rfl⟩
  · exact .inr ⟨b, 0, U + s, cs, .grow, rfl, fun _ => ⟨⟨_, _, _, rfl⟩, g2, by decide, by omega⟩, fun i x hx => by rw [Nat.zero_add]; exact g5 i x hx⟩

def numF (q : Pt) : List Pt → Int → Int
  | [], _ => -1
  | x :: l, k => if x = q then k else numF q l (k + 1)
def numP (P : Pg) (q : Pt) : Int := numF q (pointsP P) 0

theorem number_wp {n0 : Nat} {P : Pg} {bp : Nat} {vr vs vi vm vf : V} (p : Prg h n0 P bp vr vs vi vm vf) {q : Pt} (f : Fr n h) (hn : n0 ≤ n) (hP : (pointsP P).length < 100000) (hF : 100000 < F) (hf : P.funcs.length < 100000) (hb : ∀ x ∈ P.funcs, x.blocks.length < 100000)
    (k : ∀ n' h', Ev No n h n' h' → Q (i64 (numP P q)) n' h') : Wp (R8_Number F (pt bp 0) (ptV q)) n h Q := by
  unfold R8_Number
  obtain ⟨qf, qb, qi⟩ := q
  have e := (Ev.start f).new ⟨[i64 qf, i64 qb, i64 qi], .own⟩
  refine (Wp.boxNI f).2 ⟨by simp [oneS], ?_⟩
  refine Wp.cl (R := fun v n' h' => Ev No (n + 1) (h.set n ⟨[i64 qf, i64 qb, i64 qi], .own⟩) n' h' ∧ Gs h' (n + 1) 3 PtC v (pointsP P)) (points_wp (p.keep (Kp.ev e hn)) e.f (by omega) hP hF hf hb fun n' h' v e g => ⟨e, g⟩) ?_
  rintro v n1 h1 ⟨e1, g1⟩
  have g0 : h1.get n = some ⟨[i64 qf, i64 qb, i64 qi], .own⟩ := by rw [e1.no (by omega), H.get_set_same]
  have sl := g1.sl (by omega)
  have e2 := Ev.more e e1
  dsimp only [jn]
  refine Wp.loop3 (fun d x y z n' h' => n' = n1 ∧ h' = h1 ∧ x = pt n 0 ∧ y = v ∧ ∃ (j : Nat), z = i64 (j : Int) ∧ j + d = (pointsP P).length ∧ numP P ⟨qf, qb, qi⟩ = numF ⟨qf, qb, qi⟩ ((pointsP P).drop j) j) ?_ (d := (pointsP P).length) ⟨rfl, rfl, rfl, rfl, 0, rfl, by omega, rfl⟩ (by omega)
  rintro d _ v _ _ _ rec ⟨rfl, rfl, rfl, rfl, j, rfl, hj, hi⟩ hr
  simp [wpS, wpM, sl.len]
  refine ⟨fun hlt => ?_, fun hge => ?_⟩
  · obtain ⟨x, hx, hd⟩ := Sl.get hlt
    obtain ⟨b, o, cs, kd, _, hix, hb, hk, rfl, hcs, _⟩ := sl.at hx
    have c0 : cs[o]? = _ := hcs 0 _ rfl
    have c1 := hcs 1 _ rfl
    have c2 := hcs 2 _ rfl
    rw [hd] at hi
    obtain ⟨xf, xb, xi⟩ := x
    simp [wpS, wpM, ldv_live hk, hix, hb, c0, c1, c2, g0, ldv_own, wrap_succ (show j < 9223372036854775807 by omega)]
    have go : ¬ ((⟨xf, xb, xi⟩ : Pt) = ⟨qf, qb, qi⟩) → Wp (rec (pt n 0) v (i64 ((j : Int) + 1))) _ _ Q := fun hne => by
      refine hr (d - 1) _ _ _ _ _ (by omega) ⟨rfl, rfl, rfl, rfl, j + 1, by simp, by omega, ?_⟩
      rw [hi, numF, if_neg hne]; simp
    simp only [Pt.mk.injEq] at go
    refine ⟨fun h1 => ⟨fun h2 => ⟨fun h3 => ?_, fun h3 => go fun x => h3 x.2.2⟩, fun h2 => go fun x => h2 x.2.1⟩, fun h1 => go fun x => h1 x.1⟩
    have := k _ _ e2
    rw [hi, numF, if_pos (by rw [h1, h2, h3])] at this
    exact this
  · have : (pointsP P).drop j = [] := List.drop_eq_nil_of_le (by omega)
    rw [this] at hi
    have := k _ _ e2
    rw [hi] at this
    exact this

/-! ## Uses -/

def usesP (x : Ins) : List Int :=
  if x.op = 2 ∨ x.op = 8 then [x.a, x.b]
  else if x.op = 6 ∨ x.op = 7 ∨ x.op = 9 ∨ x.op = 11 ∨ x.op = 15 then [x.a]
  else if x.op = 12 then x.args
  else if x.op = 13 ∨ x.op = 14 then x.a :: x.args
  else []
abbrev I1 (cs : List V) (z : Int) : Prop := cs = [i64 z]
/-- A list of numbers in a block from lo on, below n. -/
abbrev SlI (h : H) (lo n : Nat) (v : V) (xs : List Int) : Prop := Sl h (fun b => lo ≤ b ∧ b < n) 1 I1 v xs
abbrev i64s (xs : List Int) : List V := xs.map fun z => i64 z

theorem Sl.celI {B : Nat → Prop} {E : List V → Int → Prop} {v : V} {xs : List Int} (x : Sl h B 1 E v xs) (hE : ∀ cs z, E cs z → cs = [i64 z]) : Cel h 1 v xs.length (i64s xs) := by
  refine ⟨by simp, ?_⟩
  rcases x.2 with ⟨rfl, rfl⟩ | ⟨b, o, cap, cs, kd, rfl, h1, h2⟩
  · exact .inl ⟨rfl, rfl⟩
  · refine .inr ⟨b, o, cap, rfl, fun h0 => ?_⟩
    obtain ⟨_, g2, g3, g4⟩ := h1 (by rintro rfl; exact h0 rfl)
    refine ⟨cs, kd, g2, g3, g4, ?_⟩
    apply List.ext_getElem?
    intro i
    by_cases hi : i < xs.length
    · rw [List.getElem?_take, if_pos (by omega), List.getElem?_drop, List.getElem?_map, List.getElem?_eq_getElem hi]
      have := hE _ _ (h2 i _ (List.getElem?_eq_getElem hi))
      have := congrArg (fun l => l[0]?) this
      simpa [List.getElem?_take, List.getElem?_drop] using this
    · rw [List.getElem?_take, if_neg (by omega), List.getElem?_eq_none (by simp; omega)]
theorem Sl.ofI {B : Nat → Prop} {b cap : Nat} {kd : Kind} {xs : List Int} (hb : h.get b = some ⟨i64s xs, kd⟩) (hk : kd ≠ .dead) (hl : xs.length < 9223372036854775808) (hB : B b) : Sl h B 1 I1 (sl b 0 xs.length cap) xs := by
  refine ⟨hl, .inr ⟨b, 0, cap, _, kd, rfl, fun _ => ⟨hB, hb, hk, by simp⟩, fun i x hx => ?_⟩⟩
  have hi := (List.getElem?_eq_some_iff.1 hx).1
  have he := (List.getElem?_eq_some_iff.1 hx).2
  show _ = _
  rw [Nat.zero_add, Nat.mul_one, List.drop_eq_getElem_cons (by simpa using hi), List.take_succ_cons, List.take_zero]
  simp [he]
theorem i64s_one (xs : List Int) : (i64s xs).all one = true := by simp [oneS]

theorem uses_wp {n0 : Nat} {x : Ins} {v : V} (hv : SlR h n0 1 IntC v x.args) (h1 : one v = true) (f : Fr n h) (hn : n0 ≤ n) (hl : x.args.length < 100000) (q : ∀ n' h' w, Ev No n h n' h' → SlI h' n n' w (usesP x) → Q w n' h') : Wp (R8_Uses F (insV x v)) n h Q := by
  unfold R8_Uses
  have e := (Ev.start f).new ⟨[i64 x.op, i64 x.dst, i64 x.a, i64 x.b, i64 x.n, v], .own⟩
  have hv := hv.keep (Kp.ev e hn) fun _ _ h => h
  refine (Wp.boxNI f).2 ⟨by simp [oneS, h1], ?_⟩
  have hc := hv.celI fun _ _ h => h.1
  obtain ⟨op, dst, a, b, m, args⟩ := x
  dsimp only at hc hl
  have q1 : usesP ⟨op, dst, a, b, m, args⟩ = [a] → _ := fun hu => by
    have := q _ _ (sl (n + 1) 0 1 1) (e.new ⟨[i64 a], .own⟩)
    rw [hu] at this
    exact this (Sl.ofI (xs := [a]) (H.get_set_same _ _ _) (by decide) (by simp) ⟨by omega, by omega⟩)
  have q2 : usesP ⟨op, dst, a, b, m, args⟩ = [a, b] → _ := fun hu => by
    have := q _ _ (sl (n + 1) 0 2 2) (e.new ⟨[i64 a, i64 b], .own⟩)
    rw [hu] at this
    exact this (Sl.ofI (xs := [a, b]) (H.get_set_same _ _ _) (by decide) (by simp) ⟨by omega, by omega⟩)
  have q0 : usesP ⟨op, dst, a, b, m, args⟩ = [] → _ := fun hu => by
    have := q _ _ nsl e
    rw [hu] at this
    exact this ⟨by simp, .inl ⟨rfl, rfl⟩⟩
  have q12 : usesP ⟨op, dst, a, b, m, args⟩ = args → Wp (kApp 1 8 nsl v fun v11 => ret v11) (n + 1) (h.set n ⟨[i64 op, i64 dst, i64 a, i64 b, i64 m, v], .own⟩) Q := fun hu => by
    rw [hu] at q
    by_cases h0 : args = []
    · subst h0
      refine Wp.appNone (.inl rfl) ?_ (Wp.retI.2 (q _ _ nsl e ⟨by simp, .inl ⟨rfl, rfl⟩⟩))
      rcases hc.2 with ⟨h2, _⟩ | ⟨b, o, cap, h2, _⟩
      · exact ⟨_, _, h2⟩
      · exact ⟨_, _, h2⟩
    · have h0 : args.length ≠ 0 := fun h => h0 (List.eq_nil_of_length_eq_zero h)
      refine Wp.appNew (l := 0) (m := args.length) (olds := []) ⟨by simp, .inl ⟨rfl, rfl⟩⟩ (.inl rfl) hc h0 e.f (by simpa using i64s_one args) (by omega) (Wp.retI.2 (q _ _ _ (e.new _) ?_))
      rw [Nat.zero_add]
      exact Sl.ofI (xs := args) (H.get_set_same _ _ _) (by decide) (by omega) ⟨by omega, by omega⟩
  have q13 : usesP ⟨op, dst, a, b, m, args⟩ = a :: args → Wp (kApp 1 8 (sl (n + 1) 0 1 1) v fun v11 => ret v11) (n + 1 + 1) ((h.set n ⟨[i64 op, i64 dst, i64 a, i64 b, i64 m, v], .own⟩).set (n + 1) ⟨[i64 a], .own⟩) Q := fun hu => by
    rw [hu] at q
    have e2 := e.new ⟨[i64 a], .own⟩
    have hc2 := (hv.keep (Kp.set (B := ⟨[i64 a], .own⟩) (by omega : n0 ≤ n + 1)) fun _ _ h => h).celI fun _ _ h => h.1
    by_cases h0 : args = []
    · subst h0
      refine Wp.appNone (.inr ⟨n + 1, 0, 1, 1, rfl, .inr (by decide)⟩) ?_ (Wp.retI.2 (q _ _ _ e2 (Sl.ofI (xs := [a]) (H.get_set_same _ _ _) (by decide) (by simp) ⟨by omega, by omega⟩)))
      rcases hc.2 with ⟨h2, _⟩ | ⟨b, o, cap, h2, _⟩
      · exact ⟨_, _, h2⟩
      · exact ⟨_, _, h2⟩
    · have h0 : args.length ≠ 0 := fun h => h0 (List.eq_nil_of_length_eq_zero h)
      have ho : Cel ((h.set n ⟨[i64 op, i64 dst, i64 a, i64 b, i64 m, v], .own⟩).set (n + 1) ⟨[i64 a], .own⟩) 1 (sl (n + 1) 0 1 1) 1 [i64 a] := ⟨rfl, .inr ⟨n + 1, 0, 1, rfl, fun _ => ⟨_, .own, H.get_set_same _ _ _, by decide, by simp, rfl⟩⟩⟩
      refine Wp.appNew (l := 1) (m := args.length) ho (.inr ⟨n + 1, 0, 1, rfl, by omega, by decide⟩) hc2 h0 e2.f (by rw [List.all_append, i64s_one]; simp [oneS]) (by omega) (Wp.retI.2 (q _ _ _ (e2.new _) ?_))
      rw [show 1 + args.length = (a :: args).length by simp; omega]
      exact Sl.ofI (xs := a :: args) (H.get_set_same _ _ _) (by decide) (by simp; omega) ⟨by omega, by omega⟩
  dsimp only at q0 q1 q2
  have u2 : op = 2 ∨ op = 8 → usesP ⟨op, dst, a, b, m, args⟩ = [a, b] := fun c => by simp [usesP, c]
  have u1 : op = 6 ∨ op = 7 ∨ op = 9 ∨ op = 11 ∨ op = 15 → usesP ⟨op, dst, a, b, m, args⟩ = [a] := fun c => by
    unfold usesP; rw [if_neg (by dsimp only; omega), if_pos c]
  by_cases c2 : op = 2 ∨ op = 8
  · have := q2 (u2 c2)
    rcases c2 with rfl | rfl <;> simpa [wpS, wpM, H.get_set, ldv_own, e.f, Wp.buildSliceI, fillA, rep, over, oneS] using this
  by_cases c1 : op = 6 ∨ op = 7 ∨ op = 9 ∨ op = 11 ∨ op = 15
  · have := q1 (u1 c1)
    rcases c1 with rfl | rfl | rfl | rfl | rfl <;> simpa [wpS, wpM, H.get_set, ldv_own, e.f, Wp.buildSliceI, fillA, rep, over, oneS] using this
  by_cases c3 : op = 12
  · have := q12 (by unfold usesP; rw [if_neg c2, if_neg c1, if_pos c3])
    subst c3
    simpa [wpS, wpM, H.get_set, ldv_own, e.f, Wp.buildSliceI, fillA, rep, over, oneS] using this
  by_cases c4 : op = 13 ∨ op = 14
  · have := q13 (by unfold usesP; rw [if_neg c2, if_neg c1, if_neg c3, if_pos c4])
    rcases c4 with rfl | rfl <;> simpa [wpS, wpM, H.get_set, ldv_own, e.f, Wp.buildSliceI, fillA, rep, over, oneS] using this
  · have := q0 (by unfold usesP; rw [if_neg c2, if_neg c1, if_neg c3, if_neg c4])
    simp only [not_or] at c1 c2 c4
    simpa [wpS, wpM, H.get_set, ldv_own, e.f, Wp.buildSliceI, fillA, rep, over, oneS, c1, c2, c3, c4] using this
end Go.Fn
end
section
set_option linter.unusedVariables false
namespace Go.Fn
open Go Go.Fw

variable {F n : Nat} {h : H} {Q : Post}

structure BloL (b : Blo) : Prop where
  code : b.code.length ≤ 30
  args : ∀ i ∈ b.code, i.args.length ≤ 4
structure FunL (f : Fun) : Prop where
  regs : f.regs.length ≤ 16
  blocks : f.blocks.length ≤ 12
  some_ : f.blocks.length ≠ 0
  each : ∀ b ∈ f.blocks, BloL b
/-- A program within the bounds. -/
structure Lm (P : Pg) : Prop where
  recs : P.recs.length ≤ 6
  sigs : P.sigs.length ≤ 10
  ifs : P.ifs.length ≤ 4
  imps : P.imps.length ≤ 12
  funcs : P.funcs.length ≤ 12
  some_ : P.funcs.length ≠ 0
  rec_ : ∀ x ∈ P.recs, x.length ≤ 4
  sig_ : ∀ x ∈ P.sigs, x.params.length ≤ 4
  if_ : ∀ x ∈ P.ifs, x.length ≤ 3
  imp_ : ∀ x ∈ P.imps, x.funcs.length ≤ 3
  fun_ : ∀ x ∈ P.funcs, FunL x

theorem all_succ {α : Type} {xs : List α} {p : α → Prop} {k : Nat} {y : α} (h : ∀ x ∈ xs.take k, p x) (hy : xs[k]? = some y) (py : p y) : ∀ x ∈ xs.take (k + 1), p x := by
  intro x hx
  rw [List.take_add_one, hy] at hx
  rcases List.mem_append.1 hx with hx | hx
  · exact h x hx
  · simp at hx; rw [hx]; exact py
theorem all_end {α : Type} {xs : List α} {p : α → Prop} {k : Nat} (h : ∀ x ∈ xs.take k, p x) (hk : xs.length ≤ k) : ∀ x ∈ xs, p x := by
  rw [List.take_of_length_le hk] at h; exact h

/-- An element is copied into a block of its own. -/
theorem Wp.copy {K : V → St} {s b o n0 : Nat} {h0 : H} {cs es z : List V} {kd : Kind} (e : Ev No n0 h0 n h) (hb : h.get b = some ⟨cs, kd⟩) (hk : kd ≠ .dead) (hl : o + s ≤ cs.length) (hd : (cs.drop o).take s = es) (h1 : es.all one = true) (hz : z.length = s) (hz1 : z.all one = true)
    (k : ∀ h', Ev No n0 h0 (n + 1) h' → h'.get n = some ⟨es, .own⟩ → (∀ c, c < n → h'.get c = h.get c) → Wp (K (pt n 0)) (n + 1) h' Q) : Wp (kLoadN s (pt b o) fun v => kPtr z fun w => kStoreN s w v fun _ => K w) n h Q := by
  have hle := e.le
  have hs : es.length = s := by rw [← hd, List.length_take, List.length_drop]; omega
  refine Wp.loadNI.2 ?_
  rw [hb]
  refine (ldn_live hk).2 ⟨hl, ?_⟩
  rw [hd]
  refine (Wp.ptrI e.f).2 ⟨hz1, ?_⟩
  refine Wp.storeNI.2 ⟨by simp [hs], ?_⟩
  rw [H.get_set_same]
  have ho : over z 0 es = es := by unfold over; simp [hs, hz]
  refine ⟨by simpa using h1, by simp [hs, hz], ?_⟩
  show Wp _ _ ((h.set n _).set n ⟨over z 0 es, .own⟩) _
  rw [ho]
  exact k _ ((e.new _).set _ (by omega) (by omega)) (H.get_set_same _ _ _) fun c hc => by rw [H.get_set_ne _ _ (by omega), H.get_set_ne _ _ (by omega)]
theorem Sl.one {B : Nat → Prop} {s : Nat} {α : Type} {E : List V → α → Prop} {v : V} {xs : List α} (x : Sl h B s E v xs) : Fw.one v = true := by
  rcases x.2 with ⟨rfl, _⟩ | ⟨_, _, _, _, _, rfl, _⟩ <;> rfl

theorem bounds_wp {n0 : Nat} {P : Pg} {bp : Nat} {vr vs vi vm vf : V} (p : Prg h n0 P bp vr vs vi vm vf) (f : Fr n h) (hn : n0 ≤ n) (hF : 1000 < F)
    (q : ∀ b n' h', Ev No n h n' h' → (b = true → Lm P) → Q (bo b) n' h') : Wp (R8_Bounds F (pt bp 0)) n h Q := by
  unfold R8_Bounds
  have e0 := Ev.start f
  simp [wpS, wpM, p.at_, ldv_ro, p.recs.len, p.sigs.len, p.ifs.len, p.imps.len, p.funcs.len]
  have qf : Q (bo false) n h := q false _ _ e0 (by simp)
  refine ⟨fun _ => qf, fun h1 => ⟨fun _ => qf, fun h2 => ⟨fun _ => qf, fun h3 => ⟨fun _ => qf, fun h4 => ⟨fun _ => qf, fun h5 => ⟨fun _ => qf, fun h6 => ?_⟩⟩⟩⟩⟩⟩
  refine Wp.loop2 (fun d x y n' h' => n = n' ∧ h = h' ∧ x = pt bp 0 ∧ ∃ k : Nat, y = i64 (k : Int) ∧ k + d = P.recs.length ∧ ∀ x ∈ P.recs.take k, x.length ≤ 4) ?_ (d := P.recs.length) ⟨rfl, rfl, rfl, 0, rfl, by omega, by simp⟩ (by omega)
  rintro d _ _ _ _ rec ⟨rfl, rfl, rfl, k, rfl, hk, ha⟩ hr
  simp [wpS, wpM, p.at_, ldv_ro, p.recs.len]
  refine ⟨fun hlt => ?_, fun hge => ?_⟩
  · obtain ⟨y, hy, _⟩ := Sl.get hlt
    obtain ⟨b, o, cs, kd, _, hix, hb, hkd, ⟨v, rfl, sv⟩, hcs, _⟩ := p.recs.at hy
    have c0 : cs[o]? = _ := hcs 0 _ rfl
    simp [wpS, wpM, hix, hb, ldv_live hkd, c0, sv.len, wrap_succ (show k < 9223372036854775807 by omega)]
    exact ⟨fun _ => qf, fun hle => hr (d - 1) _ _ _ _ (by omega) ⟨rfl, rfl, rfl, k + 1, by simp, by omega, all_succ ha hy (by omega)⟩⟩
  replace ha := all_end ha hge
  clear hr rec hk hge
  refine Wp.loop2 (fun d x y n' h' => n = n' ∧ h = h' ∧ x = pt bp 0 ∧ ∃ k : Nat, y = i64 (k : Int) ∧ k + d = P.sigs.length ∧ ∀ x ∈ P.sigs.take k, x.params.length ≤ 4) ?_ (d := P.sigs.length) ⟨rfl, rfl, rfl, 0, rfl, by omega, by simp⟩ (by omega)
  rintro d _ _ _ _ rec ⟨rfl, rfl, rfl, k, rfl, hk, hb1⟩ hr
  simp [wpS, wpM, p.at_, ldv_ro, p.sigs.len]
  refine ⟨fun hlt => ?_, fun hge => ?_⟩
  · obtain ⟨y, hy, _⟩ := Sl.get hlt
    obtain ⟨b, o, cs, kd, _, hix, hb, hkd, ⟨v, rfl, sv, _⟩, hcs, _⟩ := p.sigs.at hy
    have c0 : cs[o]? = _ := hcs 0 _ rfl
    simp [wpS, wpM, hix, hb, ldv_live hkd, c0, sv.len, wrap_succ (show k < 9223372036854775807 by omega)]
    exact ⟨fun _ => qf, fun hle => hr (d - 1) _ _ _ _ (by omega) ⟨rfl, rfl, rfl, k + 1, by simp, by omega, all_succ hb1 hy (by omega)⟩⟩
  replace hb1 := all_end hb1 hge
  clear hr rec hk hge
  refine Wp.loop2 (fun d x y n' h' => n = n' ∧ h = h' ∧ x = pt bp 0 ∧ ∃ k : Nat, y = i64 (k : Int) ∧ k + d = P.ifs.length ∧ ∀ x ∈ P.ifs.take k, x.length ≤ 3) ?_ (d := P.ifs.length) ⟨rfl, rfl, rfl, 0, rfl, by omega, by simp⟩ (by omega)
  rintro d _ _ _ _ rec ⟨rfl, rfl, rfl, k, rfl, hk, hc1⟩ hr
  simp [wpS, wpM, p.at_, ldv_ro, p.ifs.len]
  refine ⟨fun hlt => ?_, fun hge => ?_⟩
  · obtain ⟨y, hy, _⟩ := Sl.get hlt
    obtain ⟨b, o, cs, kd, _, hix, hb, hkd, ⟨v, rfl, sv⟩, hcs, _⟩ := p.ifs.at hy
    have c0 : cs[o]? = _ := hcs 0 _ rfl
    simp [wpS, wpM, hix, hb, ldv_live hkd, c0, sv.len, wrap_succ (show k < 9223372036854775807 by omega)]
    exact ⟨fun _ => qf, fun hle => hr (d - 1) _ _ _ _ (by omega) ⟨rfl, rfl, rfl, k + 1, by simp, by omega, all_succ hc1 hy (by omega)⟩⟩
  replace hc1 := all_end hc1 hge
  clear hr rec hk hge
  refine Wp.loop2 (fun d x y n' h' => n = n' ∧ h = h' ∧ x = pt bp 0 ∧ ∃ k : Nat, y = i64 (k : Int) ∧ k + d = P.imps.length ∧ ∀ x ∈ P.imps.take k, x.funcs.length ≤ 3) ?_ (d := P.imps.length) ⟨rfl, rfl, rfl, 0, rfl, by omega, by simp⟩ (by omega)
  rintro d _ _ _ _ rec ⟨rfl, rfl, rfl, k, rfl, hk, hd1⟩ hr
  simp [wpS, wpM, p.at_, ldv_ro, p.imps.len]
  refine ⟨fun hlt => ?_, fun hge => ?_⟩
  · obtain ⟨y, hy, _⟩ := Sl.get hlt
    obtain ⟨b, o, cs, kd, _, hix, hb, hkd, ⟨v, rfl, sv, _⟩, hcs, _⟩ := p.imps.at hy
    have c0 := hcs 2 _ rfl
    simp [wpS, wpM, hix, hb, ldv_live hkd, c0, sv.len, wrap_succ (show k < 9223372036854775807 by omega)]
    exact ⟨fun _ => qf, fun hle => hr (d - 1) _ _ _ _ (by omega) ⟨rfl, rfl, rfl, k + 1, by simp, by omega, all_succ hd1 hy (by omega)⟩⟩
  replace hd1 := all_end hd1 hge
  clear hr rec hk hge qf
  refine Wp.loop4 (fun d x y z w n' h' => Ev No n h n' h' ∧ x = pt bp 0 ∧ ∃ (k : Nat) (a b : Int), y = i64 a ∧ z = i64 b ∧ w = i64 (k : Int) ∧ k + d = P.funcs.length ∧ ∀ x ∈ P.funcs.take k, FunL x) ?_ (d := P.funcs.length) ⟨e0, rfl, 0, 0, 0, rfl, rfl, rfl, by omega, by simp⟩ (by omega)
  rintro d _ _ _ _ n1 h1 rec ⟨e1, rfl, k, a, b, rfl, rfl, rfl, hk, hf1⟩ hr
  have p1 := p.keep (Kp.ev e1 hn)
  simp [wpS, wpM, p1.at_, ldv_ro, p1.funcs.len]
  refine ⟨fun hlt => ?_, fun hge => ?_⟩
  case refine_2 =>
    replace hf1 := all_end hf1 hge
    have lm : Lm P := ⟨by omega, by omega, by omega, by omega, by omega, by simpa using h6, ha, hb1, hc1, hd1, hf1⟩
    exact ⟨fun _ => q _ _ _ e1 fun _ => lm, fun _ => q _ _ _ e1 (by simp)⟩
  obtain ⟨fn, hfn, _⟩ := Sl.get hlt
  obtain ⟨b1, o1, cs1, kd1, es, hix1, hb1', hk1, ⟨vg, vb, rfl, sr, sb, _⟩, hcs1, _, hl1, hd1'⟩ := p1.funcs.at hfn
  rw [hix1]
  refine Wp.copy e1 hb1' hk1 hl1 hd1' (by simp [oneS, sr.one, sb.one]) rfl rfl fun h2 e2 g2 k2 => ?_
  have hle := e1.le
  have kp : Kp n0 h1 h2 := fun b hb => k2 b (by omega)
  replace sr := sr.keep kp fun _ _ h => h
  replace sb := sb.keep kp (BloC.keep kp)
  have qf : Q (bo false) (n1 + 1) h2 := q false _ _ e2 (by simp)
  simp [wpS, wpM, g2, ldv_own, sr.len, sb.len]
  refine ⟨fun _ => qf, fun c1 => ⟨fun _ => qf, fun c2 => ⟨fun _ => qf, fun c3 => ?_⟩⟩⟩
  refine Wp.loop6 (fun d2 x0 x1 x2 x3 x4 x5 n' h' => n1 + 1 = n' ∧ h2 = h' ∧ x0 = pt bp 0 ∧ ∃ (i : Nat) (a b : Int), x1 = i64 a ∧ x2 = i64 b ∧ x3 = i64 (k : Int) ∧ x4 = pt n1 0 ∧ x5 = i64 (i : Int) ∧ i + d2 = fn.blocks.length ∧ ∀ x ∈ fn.blocks.take i, BloL x) ?_ (d := fn.blocks.length) ⟨rfl, rfl, rfl, 0, a, b, rfl, rfl, rfl, rfl, rfl, by omega, by simp⟩ (by omega)
  rintro d2 _ _ _ _ _ _ _ _ rec2 ⟨rfl, rfl, rfl, i, a2, b2, rfl, rfl, rfl, rfl, rfl, hi, hbl⟩ hr2
  simp [wpS, wpM, g2, ldv_own, sb.len]
  refine ⟨fun hlt2 => ?_, fun hge2 => ?_⟩
  case refine_2 =>
    rw [wrap_succ (show k < 9223372036854775807 by omega)]
    refine hr (d - 1) _ _ _ _ _ _ (by omega) ⟨e2, rfl, k + 1, a2, b2, rfl, rfl, rfl, by omega, all_succ hf1 hfn ⟨by omega, by omega, by simpa using c3, all_end hbl hge2⟩⟩
  obtain ⟨bl, hbl2, _⟩ := Sl.get hlt2
  obtain ⟨b3, o3, cs3, kd3, _, hix3, hb3, hk3, ⟨vc, rfl, sc, _⟩, hcs3, _⟩ := sb.at hbl2
  have f3 : cs3[o3]? = _ := hcs3 0 _ rfl
  simp [wpS, wpM, hix3, hb3, ldv_live hk3, f3, sc.len]
  refine ⟨fun _ => qf, fun c4 => ?_⟩
  refine Wp.loop7 (fun d3 x0 x1 x2 x3 x4 x5 x6 n' h' => n1 + 1 = n' ∧ h2 = h' ∧ x0 = pt bp 0 ∧ ∃ (j : Nat) (a b : Int), x1 = i64 a ∧ x2 = i64 b ∧ x3 = i64 (k : Int) ∧ x4 = pt n1 0 ∧ x5 = i64 (i : Int) ∧ x6 = i64 (j : Int) ∧ j + d3 = bl.code.length ∧ ∀ x ∈ bl.code.take j, x.args.length ≤ 4) ?_ (d := bl.code.length) ⟨rfl, rfl, rfl, 0, a2, b2, rfl, rfl, rfl, rfl, rfl, rfl, by omega, by simp⟩ (by omega)
  rintro d3 _ _ _ _ _ _ _ _ _ rec3 ⟨rfl, rfl, rfl, j, a3, b3', rfl, rfl, rfl, rfl, rfl, rfl, hj, hcl⟩ hr3
  simp [wpS, wpM, g2, ldv_own, hix3, hb3, ldv_live hk3, f3, sc.len]
  refine ⟨fun hlt3 => ?_, fun hge3 => ?_⟩
  case refine_2 =>
    rw [wrap_succ (show i < 9223372036854775807 by omega)]
    exact hr2 (d2 - 1) _ _ _ _ _ _ _ _ (by omega) ⟨rfl, rfl, rfl, i + 1, _, _, rfl, rfl, rfl, rfl, rfl, by omega, all_succ hbl hbl2 ⟨by omega, all_end hcl hge3⟩⟩
  obtain ⟨x, hx, _⟩ := Sl.get hlt3
  obtain ⟨b4, o4, cs4, kd4, _, hix4, hb4, hk4, ⟨va, rfl, sa, _⟩, hcs4, _⟩ := sc.at hx
  have f4 : cs4[o4]? = _ := hcs4 0 _ rfl
  have f5 := hcs4 5 _ rfl
  simp [wpS, wpM, hix4, hb4, ldv_live hk4, f4, f5, sa.len, wrap_succ (show j < 9223372036854775807 by omega), g2, ldv_own, hix3, hb3, ldv_live hk3, f3]
  refine ⟨fun _ => qf, fun c5 => ⟨fun _ => ?_, fun _ => ?_⟩⟩
  · exact hr3 (d3 - 1) _ _ _ _ _ _ _ _ _ (by omega) ⟨rfl, rfl, rfl, j + 1, _, _, rfl, rfl, rfl, rfl, rfl, by simp, by omega, all_succ hcl hx (by omega)⟩
  · exact hr3 (d3 - 1) _ _ _ _ _ _ _ _ _ (by omega) ⟨rfl, rfl, rfl, j + 1, _, _, rfl, rfl, rfl, rfl, rfl, by simp, by omega, all_succ hcl hx (by omega)⟩
end Go.Fn
end
section
set_option linter.unusedVariables false
namespace Go.Fn
open Go Go.Fw

variable {F n : Nat} {h : H} {Q : Post}

theorem small_wp {n0 : Nat} {P : Pg} {bp : Nat} {vr vs vi vm vf : V} (p : Prg h n0 P bp vr vs vi vm vf) (lm : Lm P) (hF : 1000 < F) (q : ∀ b, Q (bo b) n h) : Wp (L8_Small F (pt bp 0)) n h Q := by
  unfold L8_Small
  have l1 := lm.recs
  have l2 := lm.sigs
  have l3 := lm.ifs
  have l4 := lm.imps
  have l5 := lm.funcs
  simp [wpS, wpM, p.at_, ldv_ro, p.recs.len, p.sigs.len, p.ifs.len, p.imps.len, p.funcs.len]
  refine ⟨fun _ => q _, fun _ => ⟨fun _ => q _, fun _ => ⟨fun _ => q _, fun _ => ⟨fun _ => q _, fun _ => ⟨fun _ => q _, fun _ => ?_⟩⟩⟩⟩⟩
  refine Wp.loop3 (fun d x y z n' h' => n = n' ∧ h = h' ∧ x = pt bp 0 ∧ ∃ (k : Nat) (a : Int), y = i64 a ∧ z = i64 (k : Int) ∧ k + d = P.funcs.length) ?_ (d := P.funcs.length) ⟨rfl, rfl, rfl, 0, 0, rfl, rfl, by omega⟩ (by omega)
  rintro d _ _ _ _ _ rec ⟨rfl, rfl, rfl, k, a, rfl, rfl, hk⟩ hr
  simp [wpS, wpM, p.at_, ldv_ro, p.funcs.len]
  refine ⟨fun hlt => ?_, fun hge => q _⟩
  obtain ⟨fn, hfn, _⟩ := Sl.get hlt
  have fl := lm.fun_ fn (List.mem_of_getElem? hfn)
  have m1 := fl.blocks
  have m2 := fl.regs
  obtain ⟨b1, o1, cs1, kd1, _, hix1, hb1, hk1, ⟨vg, vb, rfl, sr, sb, _⟩, hcs1, _⟩ := p.funcs.at hfn
  have f1 := hcs1 1 _ rfl
  have f2 := hcs1 2 _ rfl
  simp [wpS, wpM, hix1, hb1, ldv_live hk1, f1, f2, sr.len, sb.len, p.at_, ldv_ro]
  refine ⟨fun _ => q _, fun _ => ⟨fun _ => q _, fun _ => ?_⟩⟩
  refine Wp.loop4 (fun d2 x0 x1 x2 x3 n' h' => n = n' ∧ h = h' ∧ x0 = pt bp 0 ∧ ∃ (i : Nat) (a : Int), x1 = i64 a ∧ x2 = i64 (k : Int) ∧ x3 = i64 (i : Int) ∧ i + d2 = fn.blocks.length) ?_ (d := fn.blocks.length) ⟨rfl, rfl, rfl, 0, a, rfl, rfl, rfl, by omega⟩ (by omega)
  rintro d2 _ _ _ _ _ _ rec2 ⟨rfl, rfl, rfl, i, a2, rfl, rfl, rfl, hi⟩ hr2
  simp [wpS, wpM, hix1, hb1, ldv_live hk1, f1, f2, sr.len, sb.len, p.at_, ldv_ro]
  refine ⟨fun hlt2 => ?_, fun hge2 => ?_⟩
  case refine_2 =>
    rw [wrap_succ (show k < 9223372036854775807 by omega)]
    exact hr (d - 1) _ _ _ _ _ (by omega) ⟨rfl, rfl, rfl, k + 1, _, rfl, rfl, by omega⟩
  obtain ⟨bl, hbl2, _⟩ := Sl.get hlt2
  obtain ⟨b3, o3, cs3, kd3, _, hix3, hb3, hk3, ⟨vc, rfl, sc, _⟩, hcs3, _⟩ := sb.at hbl2
  have f3 : cs3[o3]? = _ := hcs3 0 _ rfl
  simp [wpS, wpM, hix3, hb3, ldv_live hk3, f3, sc.len, Wp.minI, wrap_succ (show i < 9223372036854775807 by omega)]
  exact hr2 (d2 - 1) _ _ _ _ _ _ (by omega) ⟨rfl, rfl, rfl, i + 1, _, rfl, rfl, by simp, by omega⟩
end Go.Fn
end
section
set_option linter.unusedVariables false
namespace Go.Fn
open Go Go.Fw

variable {F n : Nat} {h : H} {Q : Post}

abbrev funV (x : Fun) (v w : V) : V := .agg #[i64 x.sig, v, w]
theorem take1 {cs : List V} {o : Nat} {v : V} (h : cs[o]? = some v) : (cs.drop o).take 1 = [v] := by
  have hl : o < cs.length := (List.getElem?_eq_some_iff.1 h).1
  rw [List.drop_eq_getElem_cons hl, List.take_succ_cons, List.take_zero]
  rw [List.getElem?_eq_getElem hl] at h
  cases h; rfl
theorem lt1 {cs : List V} {o : Nat} {v : V} (h : cs[o]? = some v) : o + 1 ≤ cs.length := (List.getElem?_eq_some_iff.1 h).1

theorem typ_wp {n0 : Nat} {x : Fun} {v w : V} {r : Nat} {t : Ty} (sr : SlR h n0 2 TyC v x.regs) (hw : one w = true) (hr : x.regs[r]? = some t) (f : Fr n h) (hn : n0 ≤ n) (q : ∀ n' h', Ev No n h n' h' → Q (tyV t) n' h') : Wp (R8_typ F (funV x v w) (i64 (r : Int))) n h Q := by
  unfold R8_typ
  have e := (Ev.start f).new ⟨[i64 x.sig, v, w], .own⟩
  refine (Wp.boxNI f).2 ⟨by simp [oneS, sr.one, hw], ?_⟩
  refine (Wp.ptrI e.f).2 ⟨by simp [oneS], ?_⟩
  have e2 := e.new ⟨[i64 0, i64 0], .own⟩
  have sr2 := sr.keep (Kp.ev e2 hn) fun _ _ h => h
  generalize hh : (h.set n ⟨[i64 x.sig, v, w], .own⟩).set (n + 1) ⟨[i64 0, i64 0], .own⟩ = h2 at e2 sr2
  have g0 : h2.get n = some ⟨[i64 x.sig, v, w], .own⟩ := by rw [← hh, H.get_set_ne _ _ (by omega), H.get_set_same]
  have g1 : h2.get (n + 1) = some ⟨[i64 0, i64 0], .own⟩ := by rw [← hh, H.get_set_same]
  have q1 := q _ _ (e2.set (b := n + 1) ⟨[i64 t.1, i64 t.2], .own⟩ (by omega) (by omega))
  obtain ⟨b, o, cs, kd, es, hix, hb, hk, ⟨rfl, _⟩, hcs, _, hl, hd⟩ := sr2.at hr
  simpa [wpS, wpM, g0, g1, ldv_own, hix, hb, ldn_live hk, hl, hd, wsn, ldn, over, oneS, H.get_set] using q1

/-! ## Ends -/

theorem clR {m : St} {K : V → St} {v : V} (e : m.run n h = some (v, n, h)) : Wp (cl m K) n h Q ↔ Wp (K v) n h Q := by
  unfold Wp
  rw [show (cl m K).run n h = (K v).run n h from run_bnd e]
theorem cl_in {K : V → St} {a c : Int} : Wp (cl (R8_in F (i64 a) (i64 c)) K) n h Q ↔ Wp (K (bo (decide (0 ≤ a ∧ a < c)))) n h Q := by
  obtain ⟨v, n', h', e, rfl, rfl, rfl⟩ : Wp (R8_in F (i64 a) (i64 c)) n h fun v n' h' => bo (decide (0 ≤ a ∧ a < c)) = v ∧ n = n' ∧ h = h' := in_wp.2 ⟨rfl, rfl, rfl⟩
  exact clR e
theorem Sl.veq {B : Nat → Prop} {s : Nat} {α : Type} {E : List V → α → Prop} {v : V} {xs : List α} (x : Sl h B s E v xs) : Fw.veq v v = true := by
  rcases x.2 with ⟨rfl, _⟩ | ⟨_, _, _, _, _, rfl, _⟩ <;> simp [Fw.veq]


abbrev bloV (x : Blo) (v : V) : V := .agg #[v, i64 x.fin, i64 x.reg, i64 x.to, i64 x.els]
def EndOk (x : Fun) (b : Blo) : Prop :=
  (b.fin = 1 ∧ 0 ≤ b.to ∧ b.to < x.blocks.length) ∨ (b.fin = 2 ∧ (0 ≤ b.reg ∧ b.reg < x.regs.length) ∧ (0 ≤ b.to ∧ b.to < x.blocks.length) ∧ (0 ≤ b.els ∧ b.els < x.blocks.length)) ∨ (b.fin = 3 ∧ 0 ≤ b.reg ∧ b.reg < x.regs.length)
theorem ending_wp {n0 : Nat} {x : Fun} {b : Blo} {v w u : V} (sr : SlR h n0 2 TyC v x.regs) (sb : SlR h n0 5 (BloC h n0) w x.blocks) (hu : one u = true) (f : Fr n h) (hn : n0 ≤ n) (q : ∀ z n' h', Ev No n h n' h' → (z = true → EndOk x b) → Q (bo z) n' h') : Wp (R8_ending F (funV x v w) (bloV b u)) n h Q := by
  unfold R8_ending
  have e := (Ev.start f).new ⟨[i64 x.sig, v, w], .own⟩
  refine (Wp.boxNI f).2 ⟨by simp [oneS, sr.one, sb.one], ?_⟩
  refine (Wp.boxNI e.f).2 ⟨by simp [oneS, hu], ?_⟩
  simp only [List.toList_toArray]
  have e2 := e.new ⟨[u, i64 b.fin, i64 b.reg, i64 b.to, i64 b.els], .own⟩
  have sr2 := sr.keep (Kp.ev e2 hn) fun _ _ h => h
  have sb2 := sb.keep (Kp.ev e2 hn) (BloC.keep (Kp.ev e2 hn))
  generalize hh : (h.set n ⟨[i64 x.sig, v, w], .own⟩).set (n + 1) ⟨[u, i64 b.fin, i64 b.reg, i64 b.to, i64 b.els], .own⟩ = h2 at e2 sr2 sb2
  have g0 : h2.get n = some ⟨[i64 x.sig, v, w], .own⟩ := by rw [← hh, H.get_set_ne _ _ (by omega), H.get_set_same]
  have g1 : h2.get (n + 1) = some ⟨[u, i64 b.fin, i64 b.reg, i64 b.to, i64 b.els], .own⟩ := by rw [← hh, H.get_set_same]
  have q1 := fun z => q z _ _ e2
  simp [wpS, wpM, wpN, cl_in, g0, g1, ldv_own, sr2.len, sb2.len, ldn, veqS, sb2.veq]
  have qf := q1 false (by simp)
  exact ⟨fun h1 => ⟨fun _ => ⟨fun _ => q1 _ fun hz => .inl ⟨h1, by simpa using hz⟩, fun _ => qf⟩, fun _ => qf⟩, fun _ => ⟨fun h2 => ⟨fun r1 r2 => ⟨fun t1 t2 => q1 _ fun hz => .inr (.inl ⟨h2, ⟨r1, r2⟩, ⟨t1, t2⟩, by simpa using hz⟩), fun _ => qf⟩, fun _ => qf⟩,
    fun _ => ⟨fun h3 => ⟨fun r1 r2 => ⟨fun _ => q1 _ fun _ => .inr (.inr ⟨h3, r1, r2⟩), fun _ => qf⟩, fun _ => qf⟩, fun _ => qf⟩⟩⟩
end Go.Fn
end
section
set_option linter.unusedVariables false
namespace Go.Fn
open Go Go.Fw

variable {F n : Nat} {h : H} {Q : Post}

abbrev sgV (s : Sg) (v : V) : V := .agg #[v, i64 s.res.1, i64 s.res.2]
/-- Arguments and a result go with a signature. -/
def CallOk (x : Fun) (i : Ins) (s : Sg) : Prop := i.args.length = s.params.length ∧ (∀ (k : Nat) (r : Int), i.args[k]? = some r → ∃ t, getI x.regs r = some t ∧ s.params[k]? = some t) ∧ getI x.regs i.dst = some s.res

theorem getI_of {α : Type} {l : List α} {z : Int} (h : 0 ≤ z ∧ z < l.length) : ∃ (k : Nat) (y : α), z = (k : Int) ∧ getI l z = some y ∧ l[k]? = some y ∧ k < l.length := by
  rcases getI_cases l z with ⟨_, h2⟩ | h2
  · exact absurd h h2
  · exact h2

theorem call_wp {n0 : Nat} {a0 : V} {x : Fun} {i : Ins} {s : Sg} {v w va vp : V} (sr : SlR h n0 2 TyC v x.regs) (hw : one w = true) (sa : SlR h n0 1 IntC va i.args) (sp : SlR h n0 2 TyC vp s.params)
    (hd : 0 ≤ i.dst ∧ i.dst < x.regs.length) (ha : ∀ r ∈ i.args, 0 ≤ r ∧ r < (x.regs.length : Int)) (hl : i.args.length < F) (f : Fr n h) (hn : n0 ≤ n) (q : ∀ z n' h', Ev No n h n' h' → (z = true → CallOk x i s) → Q (bo z) n' h') : Wp (R8_call F a0 (funV x v w) (insV i va) (sgV s vp)) n h Q := by
  unfold R8_call
  have e := (Ev.start f).new ⟨[i64 x.sig, v, w], .own⟩
  refine (Wp.boxNI f).2 ⟨by simp [oneS, sr.one, hw], ?_⟩
  refine (Wp.boxNI e.f).2 ⟨by simp [oneS, sa.one], ?_⟩
  have e1 := e.new ⟨[i64 i.op, i64 i.dst, i64 i.a, i64 i.b, i64 i.n, va], .own⟩
  refine (Wp.boxNI e1.f).2 ⟨by simp [oneS, sp.one], ?_⟩
  have e2 := e1.new ⟨[vp, i64 s.res.1, i64 s.res.2], .own⟩
  simp only [List.toList_toArray]
  generalize hh : ((h.set n ⟨[i64 x.sig, v, w], .own⟩).set (n + 1) ⟨[i64 i.op, i64 i.dst, i64 i.a, i64 i.b, i64 i.n, va], .own⟩).set (n + 1 + 1) ⟨[vp, i64 s.res.1, i64 s.res.2], .own⟩ = h2 at e2
  have kp := Kp.ev e2 hn
  have sr2 := sr.keep kp fun _ _ h => h
  have sa2 := sa.keep kp fun _ _ h => h
  have sp2 := sp.keep kp fun _ _ h => h
  have g0 : h2.get n = some ⟨[i64 x.sig, v, w], .own⟩ := by rw [← hh, H.get_set_ne _ _ (by omega), H.get_set_ne _ _ (by omega), H.get_set_same]
  have g1 : h2.get (n + 1) = some ⟨[i64 i.op, i64 i.dst, i64 i.a, i64 i.b, i64 i.n, va], .own⟩ := by rw [← hh, H.get_set_ne _ _ (by omega), H.get_set_same]
  have g2 : h2.get (n + 1 + 1) = some ⟨[vp, i64 s.res.1, i64 s.res.2], .own⟩ := by rw [← hh, H.get_set_same]
  have qf := q false _ _ e2 (by simp)
  simp [wpS, wpM, wpN, g0, g1, g2, ldv_own, sa2.len, sp2.len]
  refine ⟨fun _ => qf, fun hlen => ?_⟩
  refine Wp.loop4 (fun d x0 x1 x2 x3 n' h' => Ev No n h n' h' ∧ h'.get n = h2.get n ∧ h'.get (n + 1) = h2.get (n + 1) ∧ h'.get (n + 1 + 1) = h2.get (n + 1 + 1) ∧ n + 1 + 1 + 1 ≤ n' ∧ x0 = pt n 0 ∧ x1 = pt (n + 1) 0 ∧ x2 = pt (n + 1 + 1) 0 ∧ ∃ k : Nat, x3 = i64 (k : Int) ∧ k + d = i.args.length ∧ ∀ (j : Nat) (r : Int), j < k → i.args[j]? = some r → ∃ t, getI x.regs r = some t ∧ s.params[j]? = some t) ?_ (d := i.args.length) ⟨e2, rfl, rfl, rfl, by omega, rfl, rfl, rfl, 0, rfl, by omega, fun _ _ h => absurd h (by omega)⟩ hl
  rintro d _ _ _ _ n3 h3 rec ⟨e3, r0, r1, r2, hle, rfl, rfl, rfl, k, rfl, hk, hok⟩ hr
  rw [g0] at r0
  rw [g1] at r1
  rw [g2] at r2
  have kp := Kp.ev e3 hn
  have sr2 := sr.keep kp fun _ _ h => h
  have sa2 := sa.keep kp fun _ _ h => h
  have sp2 := sp.keep kp fun _ _ h => h
  simp [wpS, wpM, wpN, r0, r1, r2, ldv_own, sa2.len, sp2.len]
  refine ⟨fun hlt => ?_, fun hge => ?_⟩
  · obtain ⟨r, hr1, _⟩ := Sl.get hlt
    obtain ⟨t, ht1, _⟩ := Sl.get (show k < s.params.length by omega)
    obtain ⟨kr, u, rfl, hu1, hu2, _⟩ := getI_of (ha r (List.mem_of_getElem? hr1))
    obtain ⟨b1, o1, cs1, kd1, _, hix1, hb1, hk1, ⟨rfl, _⟩, hcs1, _⟩ := sa2.at hr1
    have c1 : cs1[o1]? = _ := hcs1 0 _ rfl
    obtain ⟨b2, o2, cs2, kd2, _, hix2, hb2, hk2, ⟨rfl, _⟩, _, _, hl2, hd2⟩ := sr2.at hu2
    obtain ⟨b3, o3, cs3, kd3, _, hix3, hb3, hk3, ⟨rfl, _⟩, _, _, hl3, hd3⟩ := sp2.at ht1
    simp [wpS, wpM, hix1, hb1, ldv_live hk1, c1, hix2, hb2, ldn_live hk2, hl2, hd2, hix3, hb3, ldn_live hk3, hl3, hd3, r0, r1, r2, ldv_own]
    refine Wp.cl (R := fun v n' h' => Ev No n3 h3 n' h' ∧ bo (decide (u = t)) = v) (eq_wp (t := u) (u := t) e3.f fun n' h' e' => ⟨e', rfl⟩) ?_
    rintro v4 n4 h4 ⟨e4, rfl⟩
    have e5 := Ev.more e3 e4
    simp [wpS, wrap_succ (show k < 9223372036854775807 by have := sa.1; omega)]
    refine ⟨fun _ => q false _ _ e5 (by simp), fun hut => ?_⟩
    subst hut
    have le4 := e4.le
    refine hr (d - 1) _ _ _ _ _ _ (by omega) ⟨e5, by rw [g0, e4.no (by omega), r0], by rw [g1, e4.no (by omega), r1], by rw [g2, e4.no (by omega), r2], by omega, rfl, rfl, rfl, k + 1, by simp, by omega, fun j r hj hr => ?_⟩
    by_cases hjk : j = k
    · subst hjk
      rw [hr1] at hr
      cases hr
      exact ⟨_, hu1, ht1⟩
    · exact hok j r (by omega) hr
  · obtain ⟨kr, u, hdr, hu1, hu2, _⟩ := getI_of hd
    obtain ⟨b2, o2, cs2, kd2, _, hix2, hb2, hk2, ⟨rfl, _⟩, _, _, hl2, hd2⟩ := sr2.at hu2
    simp [wpS, wpM, hix2, hb2, ldn_live hk2, hl2, hd2, r0, r1, r2, ldv_own, hdr, ldn]
    refine Wp.cl (R := fun v n' h' => Ev No n3 h3 n' h' ∧ bo (decide (u = s.res)) = v) (eq_wp (t := u) (u := s.res) e3.f fun n' h' e' => ⟨e', rfl⟩) ?_
    rintro v4 n4 h4 ⟨e4, rfl⟩
    simp only [wpS]
    refine q _ _ _ (Ev.more e3 e4) fun hz => ⟨by omega, fun j r hj => hok j r (by have := (List.getElem?_eq_some_iff.1 hj).1; omega) hj, ?_⟩
    rw [hu1, of_decide_eq_true hz]
end Go.Fn
end
section
set_option linter.unusedVariables false
namespace Go.Fn
open Go Go.Fw

variable {F n : Nat} {h : H} {Q : Post}

def bloP (P : Pg) (f b : Int) : Option Blo := (getI P.funcs f).bind fun f => getI f.blocks b
def readsP (P : Pg) (q : Pt) : List Int :=
  match codeP P q with
  | some x => usesP x
  | none => match bloP P q.f q.b with
    | some bl => if q.i = bl.code.length ∧ (bl.fin = 2 ∨ bl.fin = 3) then [bl.reg] else []
    | none => []

theorem getI_mem {α : Type} {l : List α} {z : Int} {y : α} (h : getI l z = some y) : y ∈ l := by
  unfold getI at h
  split at h
  · exact List.mem_of_getElem? h
  · cases h
theorem codeP_some {P : Pg} {q : Pt} {x : Ins} (h : codeP P q = some x) : ∃ fn bl, getI P.funcs q.f = some fn ∧ getI fn.blocks q.b = some bl ∧ getI bl.code q.i = some x := by
  unfold codeP at h
  obtain ⟨fn, h1, h2⟩ := Option.bind_eq_some_iff.1 h
  obtain ⟨bl, h3, h4⟩ := Option.bind_eq_some_iff.1 h2
  exact ⟨fn, bl, h1, h3, h4⟩
theorem bloP_some {P : Pg} {f b : Int} {bl : Blo} (h : bloP P f b = some bl) : ∃ fn, getI P.funcs f = some fn ∧ getI fn.blocks b = some bl := Option.bind_eq_some_iff.1 h
theorem Lm.args {P : Pg} (lm : Lm P) {q : Pt} {x : Ins} (h : codeP P q = some x) : x.args.length ≤ 4 := by
  obtain ⟨fn, bl, h1, h2, h3⟩ := codeP_some h
  exact ((lm.fun_ fn (getI_mem h1)).each bl (getI_mem h2)).args x (getI_mem h3)

theorem reads_wp {n0 : Nat} {P : Pg} {bp : Nat} {vr vs vi vm vf : V} (p : Prg h n0 P bp vr vs vi vm vf) (lm : Lm P) {q : Pt} {bl : Blo} (hq : bloP P q.f q.b = some bl) (f : Fr n h) (hn : n0 ≤ n) (k : ∀ n' h' w, Ev No n h n' h' → SlI h' n n' w (readsP P q) → Q w n' h') : Wp (R8_Reads F (pt bp 0) (ptV q)) n h Q := by
  unfold R8_Reads
  obtain ⟨qf, qb, qi⟩ := q
  have e := (Ev.start f).new ⟨[i64 qf, i64 qb, i64 qi], .own⟩
  refine (Wp.boxNI f).2 ⟨by simp [oneS], ?_⟩
  simp only [List.toList_toArray]
  refine Wp.loadNI.2 ?_
  rw [H.get_set_same]
  refine ⟨by simp, ?_⟩
  refine Wp.cl (R := fun v n' h' => Ev No (n + 1) (h.set n ⟨[i64 qf, i64 qb, i64 qi], .own⟩) n' h' ∧ ((codeP P ⟨qf, qb, qi⟩ = none ∧ v = .tuple #[.agg #[i64 0, i64 0, i64 0, i64 0, i64 0, nsl], bo false]) ∨ ∃ x w, codeP P ⟨qf, qb, qi⟩ = some x ∧ v = .tuple #[insV x w, bo true] ∧ SlR (h.set n ⟨[i64 qf, i64 qb, i64 qi], .own⟩) n0 1 IntC w x.args)) (code_wp (q := ⟨qf, qb, qi⟩) (p.keep (Kp.ev e hn)) e.f (by omega) (fun hc n' h' e' => ⟨e', .inl ⟨hc, rfl⟩⟩) (fun x w hc sw _ _ n' h' e' => ⟨e', .inr ⟨x, w, hc, rfl, sw⟩⟩)) ?_
  rintro v n1 h1 ⟨e1, hv⟩
  have e2 := Ev.more e e1
  have le1 := e1.le
  have g0 : h1.get n = some ⟨[i64 qf, i64 qb, i64 qi], .own⟩ := by rw [e1.no (by omega), H.get_set_same]
  rcases hv with ⟨hc, rfl⟩ | ⟨x, w, hc, rfl, sw⟩
  · obtain ⟨fn, c1, c2⟩ := bloP_some hq
    have hr : readsP P ⟨qf, qb, qi⟩ = if qi = bl.code.length ∧ (bl.fin = 2 ∨ bl.fin = 3) then [bl.reg] else [] := by
      unfold readsP; rw [hc, hq]
    rcases getI_cases P.funcs qf with ⟨c3, _⟩ | ⟨kf, fn', rfl, c3, c4, c5⟩
    · rw [c3] at c1; cases c1
    rw [c3] at c1; cases c1
    rcases getI_cases fn.blocks qb with ⟨d3, _⟩ | ⟨kb, bl', rfl, d3, d4, d5⟩
    · rw [d3] at c2; cases c2
    rw [d3] at c2; cases c2
    have e3 := e2.new ⟨[i64 0, i64 0, i64 0, i64 0, i64 0, nsl], .own⟩
    simp [wpS, wpM, Wp.ptrI, e2.f, oneS, H.get_set_same, wsn, over]
    have e4 := e3.set (b := n1) ⟨[i64 0, i64 0, i64 0, i64 0, i64 0, nsl], .own⟩ (by omega) (by omega)
    generalize hh : (h1.set n1 ⟨[i64 0, i64 0, i64 0, i64 0, i64 0, nsl], .own⟩).set n1 ⟨[i64 0, i64 0, i64 0, i64 0, i64 0, nsl], .own⟩ = h2 at e4
    have r0 : h2.get n = some ⟨[i64 kf, i64 kb, i64 qi], .own⟩ := by rw [← hh, H.get_set_ne _ _ (by omega), H.get_set_ne _ _ (by omega), g0]
    have p2 := p.keep (Kp.ev e4 hn)
    obtain ⟨b1, o1, cs1, kd1, _, hix1, hb1, hk1, ⟨vg, vb, rfl, sr, sb, _⟩, hcs1, _⟩ := p2.funcs.at c4
    have f2 := hcs1 2 _ rfl
    obtain ⟨b2, o2, cs2, kd2, _, hix2, hb2, hk2, ⟨vc, rfl, sc, _⟩, hcs2, _, hl2, hd2⟩ := sb.at d4
    simp [wpS, wpM, r0, ldv_own, ldv_ro, p2.at_, hix1, hb1, ldv_live hk1, f2, hix2, hb2, ldn_live hk2, hl2, hd2, Wp.ptrI, e4.f, oneS, sc.one, H.get_set_same, wsn, over]
    have e5 := (e4.new ⟨[nsl, i64 0, i64 0, i64 0, i64 0], .own⟩).set (b := n1 + 1) ⟨[vc, i64 bl.fin, i64 bl.reg, i64 bl.to, i64 bl.els], .own⟩ (by omega) (by omega)
    have k5 : ∀ c, c < n1 + 1 → ((h2.set (n1 + 1) ⟨[nsl, i64 0, i64 0, i64 0, i64 0], .own⟩).set (n1 + 1) ⟨[vc, i64 bl.fin, i64 bl.reg, i64 bl.to, i64 bl.els], .own⟩).get c = h2.get c := fun c hc => by rw [H.get_set_ne _ _ (by omega), H.get_set_ne _ _ (by omega)]
    have g5 : ((h2.set (n1 + 1) ⟨[nsl, i64 0, i64 0, i64 0, i64 0], .own⟩).set (n1 + 1) ⟨[vc, i64 bl.fin, i64 bl.reg, i64 bl.to, i64 bl.els], .own⟩).get (n1 + 1) = some ⟨[vc, i64 bl.fin, i64 bl.reg, i64 bl.to, i64 bl.els], .own⟩ := H.get_set_same _ _ _
    generalize (h2.set (n1 + 1) ⟨[nsl, i64 0, i64 0, i64 0, i64 0], .own⟩).set (n1 + 1) ⟨[vc, i64 bl.fin, i64 bl.reg, i64 bl.to, i64 bl.els], .own⟩ = h3 at e5 g5 k5 ⊢
    have sc3 := sc.keep (h' := h3) (fun b hb => k5 b (by have := e4.le; omega)) (InsC.keep (fun b hb => k5 b (by have := e4.le; omega)))
    have r3 : h3.get n = some ⟨[i64 kf, i64 kb, i64 qi], .own⟩ := by rw [k5 n (by omega), r0]
    simp [wpS, wpM, r3, g5, ldv_own, sc3.len, fillA, oneS, Wp.buildSliceI, e5.f, over, rep]
    have q0 : readsP P ⟨kf, kb, qi⟩ = [] → Q nsl (n1 + 1 + 1) h3 := fun hu => k _ _ _ e5 (by rw [hu]; exact ⟨by simp, .inl ⟨rfl, rfl⟩⟩)
    have q1 : readsP P ⟨kf, kb, qi⟩ = [bl.reg] → Q (sl (n1 + 1 + 1) 0 1 1) (n1 + 1 + 1 + 1) (h3.set (n1 + 1 + 1) ⟨[i64 bl.reg], .own⟩) := fun hu => k _ _ _ (e5.new _) (by rw [hu]; exact Sl.ofI (xs := [bl.reg]) (H.get_set_same _ _ _) (by decide) (by simp) ⟨by omega, by omega⟩)
    refine ⟨fun hi => ⟨fun h2 => q1 (by rw [hr, if_pos ⟨hi, .inl h2⟩]), fun h2 => ⟨fun h3 => q1 (by rw [hr, if_pos ⟨hi, .inr h3⟩]), fun h3 => q0 (by rw [hr, if_neg (by simp [h2, h3])])⟩⟩, fun hi => q0 (by rw [hr, if_neg (fun q => hi q.1)])⟩
  · have sw1 := sw.keep (Kp.ev e1 (by omega)) fun _ _ h => h
    have hx : x.args.length < 100000 := by have := lm.args hc; omega
    simp [wpS, wpM, Wp.ptrI, e2.f, oneS, H.get_set, wsn, over, sw.one, ldn]
    have e3 := (e2.new ⟨[i64 0, i64 0, i64 0, i64 0, i64 0, nsl], .own⟩).set (b := n1) ⟨[i64 x.op, i64 x.dst, i64 x.a, i64 x.b, i64 x.n, w], .own⟩ (by omega) (by omega)
    have sw2 := sw.keep (Kp.trans (Kp.ev e1 (by omega)) ((Kp.set (n := n1) (B := ⟨[i64 0, i64 0, i64 0, i64 0, i64 0, nsl], .own⟩) (by omega)).trans (Kp.set (n := n1) (B := ⟨[i64 x.op, i64 x.dst, i64 x.a, i64 x.b, i64 x.n, w], .own⟩) (by omega)))) fun _ _ h => h
    refine Wp.cl (R := fun v n' h' => Ev No n h n' h' ∧ SlI h' n n' v (usesP x)) (uses_wp (n0 := n0) sw2 sw.one e3.f (by omega) hx fun n' h' w e' s => ⟨Ev.more e3 e', Sl.keep s (fun b hb => by omega) (fun _ _ => rfl) fun _ _ h => h⟩) ?_
    rintro u n4 h4 ⟨e4, s4⟩
    simp only [wpS]
    exact k _ _ _ e4 (by unfold readsP; rw [hc]; exact s4)
end Go.Fn
end
section
set_option linter.unusedVariables false
namespace Go.Fn
open Go Go.Fw

variable {F n : Nat} {h : H} {Q : Post}

/-! A join: what is asked of it is shown once. -/
theorem Wp.jn {α : Type} {b : α} {k : α → St} (S : α → Prop) (hb : S b) (hk : ∀ j, S j → Wp (k j) n h Q) : Wp (jn b k) n h Q := hk b hb

def InsOk (P : Pg) (x : Fun) (i : Ins) : Prop :=
  (1 ≤ i.op ∧ i.op ≤ 15) ∧ (∀ d, defP i = some d → 0 ≤ d ∧ d < (x.regs.length : Int)) ∧ (∀ r ∈ usesP i, 0 ≤ r ∧ r < (x.regs.length : Int)) ∧
  (i.op = 7 ∨ i.op = 8 → ∀ t rc, getI x.regs i.a = some t → t.1 = 1 → getI P.recs t.2 = some rc → 0 ≤ i.n ∧ i.n < (rc.length : Int)) ∧
  (i.op = 10 ∨ i.op = 12 → 0 ≤ i.n ∧ i.n < (P.funcs.length : Int)) ∧
  (i.op = 14 → ∀ t fc, getI x.regs i.a = some t → t.1 = 3 → getI P.ifs t.2 = some fc → 0 ≤ i.n ∧ i.n < (fc.length : Int))

theorem instr_wp {n0 : Nat} {P : Pg} {bp : Nat} {vr vs vi vm vf : V} (p : Prg h n0 P bp vr vs vi vm vf) {x : Fun} {i : Ins} {v w va : V} (sr : SlR h n0 2 TyC v x.regs) (hw : one w = true) (sa : SlR h n0 1 IntC va i.args) (hreg : ∀ t ∈ x.regs, namedP P t = true) (hl : i.args.length < 100000) (hF : 100000 < F)
    (f : Fr n h) (hn : n0 ≤ n) (q : ∀ z n' h', Ev No n h n' h' → (z = true → InsOk P x i) → Q (bo z) n' h') : Wp (R8_instr F (pt bp 0) (funV x v w) (insV i va)) n h Q := by
  unfold R8_instr
  have e := (Ev.start f).new ⟨[i64 x.sig, v, w], .own⟩
  refine (Wp.boxNI f).2 ⟨by simp [oneS, sr.one, hw], ?_⟩
  refine (Wp.boxNI e.f).2 ⟨by simp [oneS, sa.one], ?_⟩
  have e2 := e.new ⟨[i64 i.op, i64 i.dst, i64 i.a, i64 i.b, i64 i.n, va], .own⟩
  simp only [List.toList_toArray]
  generalize hh : (h.set n ⟨[i64 x.sig, v, w], .own⟩).set (n + 1) ⟨[i64 i.op, i64 i.dst, i64 i.a, i64 i.b, i64 i.n, va], .own⟩ = h2 at e2
  have g0 : h2.get n = some ⟨[i64 x.sig, v, w], .own⟩ := by rw [← hh, H.get_set_ne _ _ (by omega), H.get_set_same]
  have g1 : h2.get (n + 1) = some ⟨[i64 i.op, i64 i.dst, i64 i.a, i64 i.b, i64 i.n, va], .own⟩ := by rw [← hh, H.get_set_same]
  refine Wp.jn (fun j => ∀ fl, (fl = false → 1 ≤ i.op ∧ i.op ≤ 15) → Wp (j (pt bp 0) (pt n 0) (pt (n + 1) 0) (bo fl)) (n + 1 + 1) h2 Q) ?_ fun j hj => ?_
  case refine_2 =>
    simp [wpS, wpM, g1, ldv_own]
    exact ⟨fun _ => hj _ (by simp), fun _ => hj _ fun hz => by simp at hz; omega⟩
  intro fl hfl
  refine Wp.bool.2 ⟨fun _ => Wp.retI.2 (q false _ _ e2 (by simp)), fun hz => ?_⟩
  have hop := hfl hz
  have p2 := p.keep (Kp.ev e2 hn)
  have sr2 := sr.keep (Kp.ev e2 hn) fun _ _ h => h
  have sa2 := sa.keep (Kp.ev e2 hn) fun _ _ h => h
  simp [wpS, wpM, g0, g1, ldv_own, sr2.len, ldn]
  refine Wp.cl (R := fun v n' h' => Ev No (n + 1 + 1) h2 n' h' ∧ optV (defP i) = v) (def_wp (x := i) sa.one e2.f fun n' h' e' => ⟨e', rfl⟩) ?_
  rintro _ n3 h3 ⟨e3, rfl⟩
  have le3 := e3.le
  have e4 := Ev.more e2 e3
  have g0 : h3.get n = some ⟨[i64 x.sig, v, w], .own⟩ := by rw [e3.no (by omega), g0]
  have g1 : h3.get (n + 1) = some ⟨[i64 i.op, i64 i.dst, i64 i.a, i64 i.b, i64 i.n, va], .own⟩ := by rw [e3.no (by omega), g1]
  have sa3 := sa.keep (Kp.ev e4 hn) fun _ _ h => h
  obtain ⟨d, isd, hd, hd2⟩ : ∃ (d : Int) (isd : Bool), optV (defP i) = .tuple #[i64 d, bo isd] ∧ (isd = true → defP i = some d) ∧ (isd = false → defP i = none) := by
    cases hdp : defP i with
    | none => exact ⟨0, false, rfl, by simp, by simp⟩
    | some d => exact ⟨d, true, rfl, by simp, by simp⟩
  rw [hd]
  simp [wpS, wpM, g0, g1, ldv_own, ldn]
  refine Wp.cl (R := fun v n' h' => Ev No n3 h3 n' h' ∧ SlI h' n3 n' v (usesP i)) (uses_wp (n0 := n0) (x := i) sa3 sa.one e4.f (by omega) hl fun n' h' w e' s => ⟨e', s⟩) ?_
  rintro vu n5 h5 ⟨e5, su⟩
  have le5 := e5.le
  have e6 := Ev.more e4 e5
  have g0 : h5.get n = some ⟨[i64 x.sig, v, w], .own⟩ := by rw [e5.no (by omega), g0]
  have g1 : h5.get (n + 1) = some ⟨[i64 i.op, i64 i.dst, i64 i.a, i64 i.b, i64 i.n, va], .own⟩ := by rw [e5.no (by omega), g1]
  have qf := q false _ _ e6 (by simp)
  refine Wp.jn (fun j => ∀ fl, (fl = false → isd = true → 0 ≤ i.dst ∧ i.dst < (x.regs.length : Int)) → Wp (j (pt bp 0) (pt n 0) (pt (n + 1) 0) (i64 (x.regs.length : Int)) vu (bo fl)) n5 h5 Q) ?_ fun j hj => ?_
  case refine_2 =>
    simp [wpS, wpM, wpN, cl_in, g1, ldv_own]
    refine ⟨fun hd => ⟨fun h1 => hj _ (by simp), fun h1 h2 => ?_⟩, fun hd => ?_⟩
    · simp [hd]
      exact hj _ fun _ _ => ⟨h1, h2⟩
    · simp [hd]
      exact hj _ fun _ h => by simp [hd] at h
  intro fl hfl
  refine Wp.bool.2 ⟨fun _ => Wp.retI.2 qf, fun hz => ?_⟩
  have hdst := hfl hz
  refine Wp.jn (fun j => (∀ r ∈ usesP i, 0 ≤ r ∧ r < (x.regs.length : Int)) → Wp (j (pt bp 0) (pt n 0) (pt (n + 1) 0)) n5 h5 Q) ?_ fun j hj => ?_
  case refine_2 =>
    have hul : (usesP i).length < 100000 + 1 := by
      unfold usesP; split <;> (try split) <;> (try split) <;> (try split) <;> simp <;> omega
    refine Wp.loop6 (fun d x0 x1 x2 x3 x4 x5 n' h' => n5 = n' ∧ h5 = h' ∧ x0 = pt bp 0 ∧ x1 = pt n 0 ∧ x2 = pt (n + 1) 0 ∧ x3 = i64 (x.regs.length : Int) ∧ x4 = vu ∧ ∃ k : Nat, x5 = i64 (k : Int) ∧ k + d = (usesP i).length ∧ ∀ r ∈ (usesP i).take k, 0 ≤ r ∧ r < (x.regs.length : Int)) ?_ (d := (usesP i).length) ⟨rfl, rfl, rfl, rfl, rfl, rfl, rfl, 0, rfl, by omega, by simp⟩ (by omega)
    rintro d _ _ _ _ vu _ _ _ rec ⟨rfl, rfl, rfl, rfl, rfl, rfl, rfl, k, rfl, hk, hall⟩ hr
    simp [wpS, su.len]
    refine ⟨fun hlt => ?_, fun hge => hj (all_end hall hge)⟩
    obtain ⟨r, hr1, _⟩ := Sl.get hlt
    obtain ⟨b1, o1, cs1, kd1, _, hix1, hb1, hk1, rfl, hcs1, _⟩ := su.at hr1
    have c1 : cs1[o1]? = _ := hcs1 0 _ rfl
    simp [wpS, wpM, cl_in, hix1, hb1, ldv_live hk1, c1, wrap_succ (show k < 9223372036854775807 by omega)]
    refine ⟨fun _ => qf, fun c2 c3 => hr (d - 1) _ _ _ _ _ _ _ _ (by omega) ⟨rfl, rfl, rfl, rfl, rfl, rfl, rfl, k + 1, by simp, by omega, all_succ hall hr1 ⟨c2, c3⟩⟩⟩
  intro huse
  have sa5 := sa.keep (Kp.ev e6 hn) fun _ _ h => h
  refine Wp.jn (fun j => ∀ fl, Wp (j (pt bp 0) (pt n 0) (pt (n + 1) 0) (bo fl)) n5 h5 Q) ?_ fun j hj => ?_
  case refine_2 => simp [wpS, wpM, g1, ldv_own, hj]
  intro fl2
  refine Wp.jn (fun j => ∀ fl, Wp (j (pt bp 0) (pt n 0) (pt (n + 1) 0) (bo fl)) n5 h5 Q) ?_ fun j hj => ?_
  case refine_2 => simp [wpS, wpM, g1, ldv_own, hj, sa5.len]
  intro fl3
  refine Wp.bool.2 ⟨fun _ => Wp.retI.2 qf, fun _ => ?_⟩
  have p5 := p.keep (Kp.ev e6 hn)
  have sr5 := sr.keep (Kp.ev e6 hn) fun _ _ h => h
  have base : (i.op = 7 ∨ i.op = 8 → ∀ t rc, getI x.regs i.a = some t → t.1 = 1 → getI P.recs t.2 = some rc → 0 ≤ i.n ∧ i.n < (rc.length : Int)) → (i.op = 10 ∨ i.op = 12 → 0 ≤ i.n ∧ i.n < (P.funcs.length : Int)) → (i.op = 14 → ∀ t fc, getI x.regs i.a = some t → t.1 = 3 → getI P.ifs t.2 = some fc → 0 ≤ i.n ∧ i.n < (fc.length : Int)) → InsOk P x i := fun b1 b2 b3 =>
    ⟨hop, fun d' h' => by
      cases hi : isd with
      | false => rw [hd2.2 hi] at h'; cases h'
      | true =>
        have : i.dst = d' := by
          unfold defP at h'; split at h' <;> simp at h'; exact h'
        rw [← this]; exact hdst hi, huse, b1, b2, b3⟩
  by_cases o1 : i.op = 1
  · simp [wpS, wpM, g1, ldv_own, o1]
    exact q _ _ _ e6 fun _ => base (fun h => by omega) (fun h => by omega) (fun h => by omega)
  by_cases o2 : i.op = 10 ∨ i.op = 12
  · have n7 : ¬ i.op = 7 := by omega
    have n8 : ¬ i.op = 8 := by omega
    have := fun z hz => q z _ _ e6 hz
    have hb : ∀ z : Bool, (z = true → 0 ≤ i.n ∧ i.n < (P.funcs.length : Int)) → Q (bo z) n5 h5 := fun z hz => q z _ _ e6 fun h => base (fun h => by omega) (fun _ => hz h) (fun h => by omega)
    rcases o2 with o2 | o2 <;> simp [wpS, wpM, cl_in, g1, ldv_own, ldv_ro, p5.at_, p5.funcs.len, o2]
    all_goals exact hb _ (by simp)
  simp only [not_or] at o2
  by_cases o3 : i.op = 7 ∨ i.op = 8
  · have hia := huse i.a (by unfold usesP; rcases o3 with o3 | o3 <;> simp [o3])
    obtain ⟨kr, t, hkr, hu1, hu2, _⟩ := getI_of hia
    obtain ⟨b2, ob, cs2, kd2, _, hix2, hb2, hk2, ⟨rfl, _⟩, _, _, hl2, hd2'⟩ := sr5.at hu2
    have hnt := hreg t (List.mem_of_getElem? hu2)
    have e7 := (e6.new ⟨[i64 0, i64 0], .own⟩).set (b := n5) ⟨[i64 t.1, i64 t.2], .own⟩ (by omega) (by omega)
    have g2 : ((h5.set n5 ⟨[i64 0, i64 0], .own⟩).set n5 ⟨[i64 t.1, i64 t.2], .own⟩).get (n + 1) = some ⟨[i64 i.op, i64 i.dst, i64 i.a, i64 i.b, i64 i.n, va], .own⟩ := by rw [H.get_set_ne _ _ (by omega), H.get_set_ne _ _ (by omega), g1]
    have p7 := p.keep (Kp.ev e7 hn)
    have fin7 : ∀ z : Bool, (z = true → ∀ t' rc, getI x.regs i.a = some t' → t'.1 = 1 → getI P.recs t'.2 = some rc → 0 ≤ i.n ∧ i.n < (rc.length : Int)) → Q (bo z) (n5 + 1) ((h5.set n5 ⟨[i64 0, i64 0], .own⟩).set n5 ⟨[i64 t.1, i64 t.2], .own⟩) := fun z hz => q z _ _ e7 fun h => base (fun _ => hz h) (fun h => by omega) (fun h => by omega)
    rcases o3 with o3 | o3 <;> simp [wpS, wpM, cl_in, g0, g1, ldv_own, ldv_ro, p5.at_, o3, hkr, hix2, hb2, ldn_live hk2, hl2, hd2', Wp.ptrI, e6.f, oneS, H.get_set_same, wsn, over, g2, p7.at_]
    all_goals
      refine ⟨fun h1 => fin7 true fun _ t' rc h2 h3 => ?_, fun h1 => ?_⟩
      · rw [hu1] at h2; cases h2; exact absurd h3 h1
      · have h4 : 0 ≤ t.2 ∧ t.2 < P.recs.length := by
          unfold namedP at hnt; rw [if_neg (by omega), if_pos h1] at hnt; exact of_decide_eq_true hnt
        obtain ⟨kc, rc, hkc, hc1, hc2, _⟩ := getI_of h4
        obtain ⟨b3, ob3, cs3, kd3, _, hix3, hb3, hk3, ⟨vc, rfl, sc⟩, hcs3, _⟩ := p7.recs.at hc2
        have c3 : cs3[ob3]? = _ := hcs3 0 _ rfl
        rw [← hkc] at hix3
        simp [wpS, wpM, cl_in, hix3, hb3, ldv_live hk3, c3, sc.len]
        refine fin7 _ fun hz t' rc' h2 h3 h5 => ?_
        rw [hu1] at h2; cases h2; rw [hc1] at h5; cases h5; simpa using hz
  simp only [not_or] at o3
  by_cases o4 : i.op = 14
  · have hia := huse i.a (by unfold usesP; simp [o4])
    obtain ⟨kr, t, hkr, hu1, hu2, _⟩ := getI_of hia
    obtain ⟨b2, ob, cs2, kd2, _, hix2, hb2, hk2, ⟨rfl, _⟩, _, _, hl2, hd2'⟩ := sr5.at hu2
    have hnt := hreg t (List.mem_of_getElem? hu2)
    have e7 := (e6.new ⟨[i64 0, i64 0], .own⟩).set (b := n5) ⟨[i64 t.1, i64 t.2], .own⟩ (by omega) (by omega)
    have g2 : ((h5.set n5 ⟨[i64 0, i64 0], .own⟩).set n5 ⟨[i64 t.1, i64 t.2], .own⟩).get (n + 1) = some ⟨[i64 i.op, i64 i.dst, i64 i.a, i64 i.b, i64 i.n, va], .own⟩ := by rw [H.get_set_ne _ _ (by omega), H.get_set_ne _ _ (by omega), g1]
    have p7 := p.keep (Kp.ev e7 hn)
    have fin7 : ∀ z : Bool, (z = true → ∀ t' rc, getI x.regs i.a = some t' → t'.1 = 3 → getI P.ifs t'.2 = some rc → 0 ≤ i.n ∧ i.n < (rc.length : Int)) → Q (bo z) (n5 + 1) ((h5.set n5 ⟨[i64 0, i64 0], .own⟩).set n5 ⟨[i64 t.1, i64 t.2], .own⟩) := fun z hz => q z _ _ e7 fun h => base (fun h => by omega) (fun h => by omega) (fun _ => hz h)
    simp [wpS, wpM, cl_in, g0, g1, ldv_own, ldv_ro, p5.at_, o4, hkr, hix2, hb2, ldn_live hk2, hl2, hd2', Wp.ptrI, e6.f, oneS, H.get_set_same, wsn, over, g2, p7.at_]
    refine ⟨fun h1 => fin7 true fun _ t' rc h2 h3 => ?_, fun h1 => ?_⟩
    · rw [hu1] at h2; cases h2; exact absurd h3 h1
    · have h4 : 0 ≤ t.2 ∧ t.2 < P.ifs.length := by
        unfold namedP at hnt; rw [if_neg (by omega), if_neg (by omega), if_neg (by omega), if_pos h1] at hnt; exact of_decide_eq_true hnt
      obtain ⟨kc, rc, hkc, hc1, hc2, _⟩ := getI_of h4
      obtain ⟨b3, ob3, cs3, kd3, _, hix3, hb3, hk3, ⟨vc, rfl, sc⟩, hcs3, _⟩ := p7.ifs.at hc2
      have c3 : cs3[ob3]? = _ := hcs3 0 _ rfl
      rw [← hkc] at hix3
      simp [wpS, wpM, cl_in, hix3, hb3, ldv_live hk3, c3, sc.len]
      refine fin7 _ fun hz t' rc' h2 h3 h5 => ?_
      rw [hu1] at h2; cases h2; rw [hc1] at h5; cases h5; simpa using hz
  simp [wpS, wpM, cl_in, g1, ldv_own, o1, o2, o3, o4]
  exact q _ _ _ e6 fun _ => base (fun h => by omega) (fun h => by omega) (fun h => by omega)
end Go.Fn
end
