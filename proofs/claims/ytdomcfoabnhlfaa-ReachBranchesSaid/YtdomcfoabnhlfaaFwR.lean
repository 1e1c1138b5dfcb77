/-
  Laws by which an abstract function is reckoned: one step, one equation.
-/
import Derived.Test.YtdomcfoabnhlfaaFwQ
namespace Go.Fw

abbrev pt (b o : Nat) : Value := .pointer (some ⟨b, o, none⟩)
abbrev sl (b o len cap : Nat) : Value := .slice (some ⟨b, o, none⟩) len cap
abbrev nsl : Value := .slice none 0 0
abbrev i64 (z : Int) : Value := .int .i64 z
abbrev bo (b : Bool) : Value := .bool b

/-! ## Numbers -/

theorem wrap64 {z : Int} (h : -9223372036854775808 ≤ z ∧ z ≤ 9223372036854775807) : IntKind.i64.wrap z = z := by
  have h1 : IntKind.i64.signed = true := rfl
  have h2 : IntKind.i64.bits = 64 := rfl
  unfold IntKind.wrap
  rw [h1, h2]
  show (if (true && decide (z % (2 ^ 64 : Int) ≥ (2 ^ (64 - 1) : Int))) = true then z % (2 ^ 64 : Int) - (2 ^ 64 : Int) else z % (2 ^ 64 : Int)) = z
  rw [show (2 ^ 64 : Int) = 18446744073709551616 by rfl, show (2 ^ (64 - 1) : Int) = 9223372036854775808 by rfl]
  simp only [Bool.true_and, decide_eq_true_eq]
  split <;> omega

/-! ## Steps -/
section
variable {β : Type} {n : Nat} {h : H} {k : Value → M β}

theorem run_ret {α : Type} (v : α) (n : Nat) (h : H) : (ret v).run n h = some (v, n, h) := rfl
theorem run_fail {α : Type} (n : Nat) (h : H) : (fail : M α).run n h = none := rfl
theorem run_bnd {α : Type} {m : M α} {k : α → M β} {v : α} {n' : Nat} {h' : H} (e : m.run n h = some (v, n', h')) : (bnd m k).run n h = (k v).run n' h' := bnd_of e

theorem run_bnd' {α : Type} {m : M α} {k : α → M β} {n : Nat} {h : H} : (bnd m k).run n h = (m.run n h).bind fun x => (k x.1).run x.2.1 x.2.2 := by
  unfold bnd; dsimp only; cases m.run n h <;> rfl

theorem st_add {kd : IntKind} {a b : Int} : bnd (opBin .add (.int kd a) (.int kd b)) k = k (.int kd (kd.wrap (a + b))) := by simp [opBin, bin]
theorem st_sub {kd : IntKind} {a b : Int} : bnd (opBin .sub (.int kd a) (.int kd b)) k = k (.int kd (kd.wrap (a - b))) := by simp [opBin, bin]
theorem st_mul {kd : IntKind} {a b : Int} : bnd (opBin .mul (.int kd a) (.int kd b)) k = k (.int kd (kd.wrap (a * b))) := by simp [opBin, bin]
theorem st_quo {kd : IntKind} {a b : Int} (h0 : b ≠ 0) : bnd (opBin .quo (.int kd a) (.int kd b)) k = k (.int kd (kd.wrap (a.tdiv b))) := by simp [opBin, bin, h0]
theorem st_rem {kd : IntKind} {a b : Int} (h0 : b ≠ 0) : bnd (opBin .rem (.int kd a) (.int kd b)) k = k (.int kd (a.tmod b)) := by simp [opBin, bin, h0]
theorem st_eql {kd : IntKind} {a b : Int} : bnd (opBin .eql (.int kd a) (.int kd b)) k = k (.bool (a == b)) := by simp [opBin, bin]
theorem st_neq {kd : IntKind} {a b : Int} : bnd (opBin .neq (.int kd a) (.int kd b)) k = k (.bool (a != b)) := by simp [opBin, bin]
theorem st_lss {kd : IntKind} {a b : Int} : bnd (opBin .lss (.int kd a) (.int kd b)) k = k (.bool (decide (a < b))) := by simp [opBin, bin]
theorem st_leq {kd : IntKind} {a b : Int} : bnd (opBin .leq (.int kd a) (.int kd b)) k = k (.bool (decide (a ≤ b))) := by simp [opBin, bin]
theorem st_gtr {kd : IntKind} {a b : Int} : bnd (opBin .gtr (.int kd a) (.int kd b)) k = k (.bool (decide (b < a))) := by simp [opBin, bin]
theorem st_geq {kd : IntKind} {a b : Int} : bnd (opBin .geq (.int kd a) (.int kd b)) k = k (.bool (decide (b ≤ a))) := by simp [opBin, bin]
theorem st_not {b : Bool} : bnd (opNot (.bool b)) k = k (.bool (!b)) := rfl
theorem st_neg {kd : IntKind} {z : Int} : bnd (opNeg (.int kd z)) k = k (.int kd (kd.wrap (0 - z))) := rfl
theorem st_conv {kd kd' : IntKind} {z : Int} : bnd (opConv kd (.int kd' z)) k = k (.int kd (kd.wrap z)) := rfl
theorem st_nil {a : Addr} : bnd (opNil (.pointer (some a))) k = k (.pointer (some a)) := rfl
theorem st_len {a : Option Addr} {l c : Nat} : bnd (opLen (.slice a l c)) k = k (.int .i64 l) := rfl
theorem st_field {b o off : Nat} : bnd (opFieldAddr off (pt b o)) k = k (pt b (o + off)) := rfl
theorem st_ix {s b o len cap : Nat} {kd : IntKind} {i : Int} : bnd (opIndexAddr s (sl b o len cap) (.int kd i)) k = if 0 ≤ i ∧ i < (len : Int) then k (pt b (o + i.toNat * s)) else fail := by
  show bnd (if 0 ≤ i ∧ i < (len : Int) then ret (pt b (o + i.toNat * s)) else fail) k = _
  split <;> rfl
theorem st_ixA {m s b o : Nat} {kd : IntKind} {i : Int} : bnd (opIndexAddrA m s (pt b o) (.int kd i)) k = if 0 ≤ i ∧ i < (m : Int) then k (pt b (o + i.toNat * s)) else fail := by
  show bnd (if 0 ≤ i ∧ i < (m : Int) then ret (pt b (o + i.toNat * s)) else fail) k = _
  split <;> rfl
theorem st_eqB {a b neg : Bool} : bnd (opEq eqB neg (.bool a) (.bool b)) k = k (.bool (xor neg (a == b))) := rfl
theorem st_eqP0 {neg : Bool} : bnd (opEq eqP neg (.pointer none) (.pointer none)) k = k (.bool (xor neg true)) := rfl
theorem st_eqP1 {neg : Bool} {a : Addr} : bnd (opEq eqP neg (.pointer (some a)) (.pointer none)) k = k (.bool (xor neg false)) := rfl
theorem st_eqS0 {neg : Bool} {l c l' c' : Nat} : bnd (opEq eqSl neg (.slice none l c) (.slice none l' c')) k = k (.bool (xor neg true)) := rfl
theorem st_eqS1 {neg : Bool} {a : Addr} {l c l' c' : Nat} : bnd (opEq eqSl neg (.slice (some a) l c) (.slice none l' c')) k = k (.bool (xor neg false)) := rfl
theorem st_max {kd : IntKind} {a b : Int} : bnd (opMax [.int kd a, .int kd b]) k = k (.int kd (if b > a then b else a)) := rfl
theorem st_min {kd : IntKind} {a b : Int} : bnd (opMin [.int kd a, .int kd b]) k = k (.int kd (if b < a then b else a)) := rfl

theorem onB_ite {α : Type} {b : Bool} {t f : M α} : onB (.bool b) t f = if b = true then t else f := by cases b <;> rfl
theorem run_ite {α : Type} {c : Prop} [Decidable c] {t f : M α} {n : Nat} {h : H} : (if c then t else f).run n h = if c then t.run n h else f.run n h := by split <;> rfl

/-! ## Memory -/

/-- A cell is looked at. -/
def ldm {γ : Type} (x : Option Blk) (o : Nat) (f : Value → Option γ) : Option γ :=
  match x with
  | some ⟨_, .dead⟩ => none
  | some ⟨cs, _⟩ => (match cs[o]? with
    | some v => f v
    | none => none)
  | none => none
theorem ldm_some {γ : Type} {cs : List Value} {kd : Kind} {o : Nat} {f : Value → Option γ} {v : Value} (hk : kd ≠ .dead) (hv : cs[o]? = some v) : ldm (some ⟨cs, kd⟩) o f = f v := by
  cases kd <;> first | exact absurd rfl hk | simp [ldm, hv]
theorem run_load {b o : Nat} : (bnd (opLoad (pt b o)) k).run n h = ldm (h.get b) o fun v => (k v).run n h := by
  rw [run_bnd']
  show (rdF b o n h).bind _ = _
  unfold rdF ldm
  cases h.get b with
  | none => rfl
  | some B =>
    obtain ⟨cs, kd⟩ := B
    cases kd <;> simp only <;> (try rfl) <;> cases cs[o]? <;> rfl
/-- A cell is written. -/
def stm {γ : Type} (x : Option Blk) (o : Nat) (v : Value) (f : Blk → Option γ) : Option γ :=
  if one v then (match x with
    | some ⟨cs, .own⟩ => if o < cs.length then f ⟨cs.set o v, .own⟩ else none
    | some ⟨cs, .grow⟩ => if o < cs.length then f ⟨cs.set o v, .grow⟩ else none
    | _ => none) else none
theorem stm_some {γ : Type} {cs : List Value} {kd : Kind} {o : Nat} {v : Value} {f : Blk → Option γ} (hk : kd = .own ∨ kd = .grow) (h1 : one v = true) (ho : o < cs.length) : stm (some ⟨cs, kd⟩) o v f = f ⟨cs.set o v, kd⟩ := by
  rcases hk with rfl | rfl <;> simp [stm, h1, ho]
theorem run_store {b o : Nat} {v : Value} : (bnd (opStore (pt b o) v) k).run n h = stm (h.get b) o v fun B => (k undef).run n (h.set b B) := by
  show (bnd (bnd (wr1 b o v) fun _ => ret undef) k).run n h = _
  rw [bnd_assoc, run_bnd']
  show (wr1F b o v n h).bind _ = _
  unfold wr1F stm
  cases one v with
  | false => simp
  | true =>
    simp only [if_true]
    cases h.get b with
    | none => rfl
    | some B =>
      obtain ⟨cs, kd⟩ := B
      cases kd <;> simp only <;> (try rfl) <;> (split <;> rfl)
/-- Cells are looked at. -/
def ldN {γ : Type} (x : Option Blk) (o s : Nat) (f : List Value → Option γ) : Option γ :=
  match x with
  | some ⟨_, .dead⟩ => none
  | some ⟨cs, _⟩ => if o + s ≤ cs.length then f ((cs.drop o).take s) else none
  | none => none
theorem ldN_some {γ : Type} {cs : List Value} {kd : Kind} {o s : Nat} {f : List Value → Option γ} (hk : kd ≠ .dead) (ho : o + s ≤ cs.length) : ldN (some ⟨cs, kd⟩) o s f = f ((cs.drop o).take s) := by
  cases kd <;> first | exact absurd rfl hk | simp [ldN, ho]
theorem run_rdN {b o s : Nat} {k : List Value → M β} : (bnd (rdN b o s) k).run n h = ldN (h.get b) o s fun v => (k v).run n h := by
  rw [run_bnd']
  show (rdNF b o s n h).bind _ = _
  unfold rdNF ldN
  cases h.get b with
  | none => rfl
  | some B =>
    obtain ⟨cs, kd⟩ := B
    cases kd <;> simp only <;> (try rfl) <;> (split <;> rfl)
theorem run_loadN {b o s : Nat} : (bnd (opLoadN s (pt b o)) k).run n h = ldN (h.get b) o s fun cs => (k (.agg cs.toArray)).run n h := by
  show (bnd (bnd (rdN b o s) fun cs => ret (.agg cs.toArray)) k).run n h = _
  rw [bnd_assoc, run_rdN]
  rfl

/-- Nothing is from n on. -/
def Fr (n : Nat) (h : H) : Prop := ∀ b, n ≤ b → h.get b = none
theorem Fr.run {α : Type} {m : M α} {n n' : Nat} {h h' : H} {v : α} (f : Fr n h) (e : m.run n h = some (v, n', h')) : Fr n' h' ∧ n ≤ n' := by
  have l := m.loc _ _ _ _ _ e
  refine ⟨fun b hb => ?_, l.le⟩
  cases hg : h'.get b with
  | none => rfl
  | some B =>
    have := (l.dom b).1 (by rw [hg]; rfl)
    have hle := l.le
    rcases this with h1 | h1
    · rw [f b (by omega)] at h1; cases h1
    · omega
theorem Fr.lt {n : Nat} {h : H} (f : Fr n h) {b : Nat} {B : Blk} (hb : h.get b = some B) : b < n := by
  rcases Nat.lt_or_ge b n with h1 | h1
  · exact h1
  · rw [f b h1] at hb; cases hb
theorem Fr.set {n : Nat} {h : H} (f : Fr n h) {b : Nat} (B : Blk) (hb : b < n) : Fr n (h.set b B) := fun c hc => by rw [H.get_set_ne _ _ (by omega)]; exact f c hc
theorem Fr.new {n : Nat} {h : H} (f : Fr n h) (B : Blk) : Fr (n + 1) (h.set n B) := fun c hc => by rw [H.get_set_ne _ _ (by omega)]; exact f c (by omega)

theorem run_new {cs : List Value} {kd : Kind} {k : Nat → M β} (f : Fr n h) (h1 : cs.all one = true) : (bnd (new cs kd) k).run n h = (k n).run (n + 1) (h.set n ⟨cs, kd⟩) := by
  rw [run_bnd']
  show (newF cs kd n h).bind _ = _
  unfold newF
  rw [if_pos h1, f n (Nat.le_refl _)]
  rfl
theorem run_ptr {cs : List Value} (f : Fr n h) (h1 : cs.all one = true) : (bnd (opPtr cs) k).run n h = (k (pt n 0)).run (n + 1) (h.set n ⟨cs, .own⟩) := by
  unfold opPtr
  rw [bnd_assoc, run_new f h1]
  rfl
theorem run_box {cs : List Value} (f : Fr n h) (h1 : cs.all one = true) : (bnd (opBoxN (.agg cs.toArray)) k).run n h = (k (pt n 0)).run (n + 1) (h.set n ⟨cs, .own⟩) := by
  show (bnd (opPtr cs.toArray.toList) k).run n h = _
  rw [List.toList_toArray]
  exact run_ptr f h1
theorem run_build {m : Nat} {z cs : List Value} {ps : List (Nat × Nat × Bool × Value)} (hz : fillA z ps = some cs) (f : Fr n h) (h1 : cs.all one = true) : (bnd (opBuildSlice m z ps) k).run n h = (k (sl n 0 m m)).run (n + 1) (h.set n ⟨cs, .own⟩) := by
  unfold opBuildSlice
  rw [hz]
  simp only
  rw [bnd_assoc, run_new f h1]
  rfl
theorem run_make {bytes : Nat} {z : List Value} {l c : Int} (hb : 0 ≤ l ∧ l ≤ c ∧ c ≤ 1099511627776 ∧ bytes * c.toNat ≤ 70368744177664) (f : Fr n h) (h1 : (rep c.toNat z).all one = true) :
    (bnd (opMake bytes z (.int .i64 l) (.int .i64 c)) k).run n h = (k (sl n 0 l.toNat c.toNat)).run (n + 1) (h.set n ⟨rep c.toNat z, .own⟩) := by
  show (bnd (if 0 ≤ l ∧ l ≤ c ∧ c ≤ 1099511627776 ∧ bytes * c.toNat ≤ 70368744177664 then bnd (new (rep c.toNat z) .own) fun b => ret (sl b 0 l.toNat c.toNat) else fail) k).run n h = _
  rw [if_pos hb, bnd_assoc, run_new f h1]
  rfl
end

/-! ## Appending one value -/
section
variable {β : Type} {n : Nat} {h : H}

/-- A slice that grows by appends alone. -/
def Gl (h : H) (v : Value) (b : Nat) (cs : List Value) : Prop := (cs = [] ∧ v = nsl) ∨ (cs ≠ [] ∧ v = sl b 0 cs.length (U + 1) ∧ h.get b = some ⟨cs, .grow⟩)

theorem Gl.len {v : Value} {b : Nat} {cs : List Value} (g : Gl h v b cs) {k : Value → M β} : bnd (opLen v) k = k (i64 cs.length) := by
  rcases g with ⟨rfl, rfl⟩ | ⟨_, rfl, _⟩ <;> rfl
theorem Gl.keep {h' : H} {v : Value} {b : Nat} {cs : List Value} (g : Gl h v b cs) (hk : cs ≠ [] → h'.get b = h.get b) : Gl h' v b cs := by
  rcases g with ⟨rfl, rfl⟩ | ⟨g0, rfl, g1⟩
  · exact .inl ⟨rfl, rfl⟩
  · exact .inr ⟨g0, rfl, by rw [hk g0]; exact g1⟩
theorem Gl.lt {v : Value} {b : Nat} {cs : List Value} (g : Gl h v b cs) (f : Fr n h) (h0 : cs ≠ []) : b < n := by
  rcases g with ⟨rfl, _⟩ | ⟨_, _, g1⟩
  · exact absurd rfl h0
  · exact f.lt g1

/-- One value, in a slice of its own. -/
theorem run_single {z x : Value} (f : Fr n h) (h1 : one x = true) {k : Value → M β} : (bnd (opBuildSlice 1 (rep 1 [z]) [(0, 1, false, x)]) k).run n h = (k (sl n 0 1 1)).run (n + 1) (h.set n ⟨[x], .own⟩) :=
  run_build (by simp [fillA, rep, h1]) f (by simp [h1])

theorem cellsOf_gl {s b len cap : Nat} (hl : len ≠ 0) {k : List Value → M β} : bnd (cellsOf s (sl b 0 len cap)) k = bnd (rdN b 0 (len * s)) k := by
  show bnd (if len = 0 then ret [] else rdN b 0 (len * s)) k = _
  rw [if_neg hl]

theorem run_append {bytes m : Nat} {v x : Value} {b : Nat} {cs : List Value} {km : Kind} (g : Gl h v b cs) (f : Fr n h) (hm : h.get m = some ⟨[x], km⟩) (hkm : km ≠ .dead) (h1 : one x = true) (hall : cs.all one = true)
    (hmb : cs ≠ [] → b ≠ m) (hs : cs.length + 1 ≤ 1099511627776 ∧ (cs.length + 1) * bytes ≤ 70368744177664) :
    ∃ h', (∀ (k : Value → M β), (bnd (opAppend 1 bytes v (sl m 0 1 1)) k).run n h = (k (sl n 0 (cs.length + 1) (U + 1))).run (n + 1) h') ∧ Gl h' (sl n 0 (cs.length + 1) (U + 1)) n (cs ++ [x]) ∧
      Fr (n + 1) h' ∧ ∀ c, c ≠ n → (cs ≠ [] → c ≠ b) → h'.get c = h.get c := by
  have hml := f.lt hm
  rcases g with ⟨rfl, rfl⟩ | ⟨h0, rfl, hb⟩
  · refine ⟨h.set n ⟨[x], .grow⟩, fun k => ?_, .inr ⟨by simp, rfl, H.get_set_same _ _ _⟩, f.new _, fun c hc _ => H.get_set_ne _ _ hc⟩
    unfold opAppend
    simp only [List.length_nil, Nat.zero_add] at hs
    simp only [Nat.zero_add, if_neg (show ¬ (1 : Nat) = 0 by decide), if_pos hs]
    rw [bnd_assoc, cellsOf_gl (by decide), run_rdN, hm, ldN_some hkm (by simp), if_neg (by simp [U]), if_pos (by decide)]
    show (bnd (bnd (cellsOf 1 nsl) _) k).run n h = _
    rw [bnd_assoc]
    show (bnd (bnd (new ([] ++ (List.take (1 * 1) (List.drop 0 [x]))) .grow) _) k).run n h = _
    rw [bnd_assoc, run_new f (by simp [h1])]
    rfl
  · have hbl := f.lt hb
    have f1 : Fr n (h.set b dead) := f.set _ hbl
    have hlen : cs.length ≠ 0 := fun e => h0 (List.eq_nil_of_length_eq_zero e)
    refine ⟨(h.set b dead).set n ⟨cs ++ [x], .grow⟩, fun k => ?_, .inr ⟨by simp, by simp, H.get_set_same _ _ _⟩, f1.new _, fun c hc hcb => by rw [H.get_set_ne _ _ hc, H.get_set_ne _ _ (hcb h0)]⟩
    unfold opAppend
    simp only [if_neg (show ¬ (1 : Nat) = 0 by decide), if_pos hs]
    rw [bnd_assoc, cellsOf_gl (by decide), run_rdN, hm, ldN_some hkm (by simp)]
    simp only [if_true]
    rw [bnd_assoc, cellsOf_gl hlen, run_rdN, hb, ldN_some (by decide) (by simp)]
    rw [bnd_assoc]
    have hkill : (kill b).run n h = some ((), n, h.set b dead) := by
      show killF b n h = _
      unfold killF
      rw [hb]
    rw [run_bnd hkill, bnd_assoc, run_new f1 (by simp [h1]; simpa using hall)]
    simp
end

/-! ## A call that looks at nothing, reckoned in an empty heap -/

theorem run_closed {α : Type} {m : M α} {n n' : Nat} {v : α} {h0 h : H} (e : m.run n .leaf = some (v, n', h0)) (f : Fr n h) : ∃ h', m.run n h = some (v, n', h') ∧ Fr n' h' ∧ n ≤ n' ∧ ∀ c, c < n → h'.get c = h.get c := by
  have l := m.loc _ _ _ _ _ e
  obtain ⟨h', e', hg⟩ := l.more h (fun b B hb => by simp [H.get] at hb) fun b hb _ => f b hb
  refine ⟨h', e', (f.run e').1, l.le, fun c hc => ?_⟩
  rw [hg c]
  have : ¬ (h0.get c).isSome = true := fun h => by
    rcases (l.dom c).1 h with h | h
    · simp [H.get] at h
    · omega
  rw [if_neg this]

theorem run_true {m : M Value} {n : Nat} {h : H} (e : gaveTrue (m.run n .leaf) = true) (f : Fr n h) : ∃ n' h', m.run n h = some (bo true, n', h') ∧ Fr n' h' ∧ n ≤ n' ∧ ∀ c, c < n → h'.get c = h.get c := by
  obtain ⟨n', h0, e⟩ := gaveTrue_some e
  obtain ⟨h', q⟩ := run_closed e f
  exact ⟨n', h', q⟩

theorem Entry.more {G : Nat} {W : World} {n m : Nat} {ρ : Map} {h : H} (e : Entry G W n ρ h) (hm : n ≤ m) : Entry G W m ρ h := ⟨e.r, e.ro, fun b hb => e.fresh b (by omega)⟩

end Go.Fw
