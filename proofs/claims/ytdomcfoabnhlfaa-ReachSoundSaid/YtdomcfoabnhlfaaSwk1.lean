/-
  The framework by which the law is proved: FwA, FwB, FwC, FwD, FwE, FwKy, FwF, FwG, FwH, FwI.
-/
import Derived.WalkKit
import Derived.Orders
import GoSem.ClaimKeys
import Derived.Maps.Keyed
import Derived.DeepKeys4
set_option linter.all false
section
namespace Go.Fw

/-! ## Blocks, and the heap: a tree by the bits of a block's number -/

/-- What a block is: read only (came in), own (just as long as it is), grow (made by an append: there may be room behind it), dead (nobody may look). -/
inductive Kind where
  | ro | own | grow | dead
  deriving DecidableEq

structure Blk where
  cells : List Value
  kind : Kind

inductive H where
  | leaf
  | node (l : H) (v : Option Blk) (r : H)

def H.get : H → Nat → Option Blk
  | .leaf, _ => none
  | .node l v r, n => if n = 0 then v else if n % 2 = 1 then l.get (n / 2) else r.get (n / 2 - 1)

def H.put : Nat → H → Nat → Blk → H
  | 0, t, _, _ => t
  | f + 1, .leaf, n, x => if n = 0 then .node .leaf (some x) .leaf else if n % 2 = 1 then .node (H.put f .leaf (n / 2) x) none .leaf else .node .leaf none (H.put f .leaf (n / 2 - 1) x)
  | f + 1, .node l v r, n, x => if n = 0 then .node l (some x) r else if n % 2 = 1 then .node (H.put f l (n / 2) x) v r else .node l v (H.put f r (n / 2 - 1) x)

def H.set (t : H) (n : Nat) (x : Blk) : H := H.put (n + 1) t n x

theorem H.get_put : ∀ (f : Nat) (t : H) (n : Nat) (x : Blk) (m : Nat), n < f → (H.put f t n x).get m = if m = n then some x else t.get m := by
  intro f
  induction f with
  | zero => intro t n x m h; omega
  | succ f ih =>
    intro t n x m h
    cases t with
    | leaf =>
      by_cases h0 : n = 0
      · subst h0
        simp only [H.put, if_true, H.get]
        by_cases hm : m = 0 <;> simp [hm]
      · by_cases h1 : n % 2 = 1
        · simp only [H.put, h0, h1, if_true, if_false, H.get]
          by_cases hm : m = 0
          · simp only [hm, if_true]; rw [if_neg (by omega)]
          · simp only [hm, if_false]
            by_cases hm1 : m % 2 = 1
            · simp only [hm1, if_true]; rw [ih _ _ _ _ (by omega)]; simp only [H.get]
              by_cases e : m = n
              · simp [e]
              · rw [if_neg (by omega), if_neg e]
            · simp only [hm1, if_false]; rw [if_neg (by intro e; subst e; omega)]
        · simp only [H.put, h0, h1, if_false, H.get]
          by_cases hm : m = 0
          · simp only [hm, if_true]; rw [if_neg (by omega)]
          · simp only [hm, if_false]
            by_cases hm1 : m % 2 = 1
            · simp only [hm1, if_true]; rw [if_neg (by intro e; subst e; omega)]
            · simp only [hm1, if_false]; rw [ih _ _ _ _ (by omega)]; simp only [H.get]
              by_cases e : m = n
              · simp [e]
              · rw [if_neg (by omega), if_neg e]
    | node l v r =>
      by_cases h0 : n = 0
      · subst h0
        simp only [H.put, if_true, H.get]
        by_cases hm : m = 0 <;> simp [hm]
      · by_cases h1 : n % 2 = 1
        · simp only [H.put, h0, h1, if_true, if_false, H.get]
          by_cases hm : m = 0
          · simp only [hm, if_true]; rw [if_neg (by omega)]
          · simp only [hm, if_false]
            by_cases hm1 : m % 2 = 1
            · simp only [hm1, if_true]; rw [ih _ _ _ _ (by omega)]
              by_cases e : m = n
              · simp [e]
              · rw [if_neg (by omega), if_neg e]
            · simp only [hm1, if_false]; rw [if_neg (by intro e; subst e; omega)]
        · simp only [H.put, h0, h1, if_false, H.get]
          by_cases hm : m = 0
          · simp only [hm, if_true]; rw [if_neg (by omega)]
          · simp only [hm, if_false]
            by_cases hm1 : m % 2 = 1
            · simp only [hm1, if_true]; rw [if_neg (by intro e; subst e; omega)]
            · simp only [hm1, if_false]; rw [ih _ _ _ _ (by omega)]
              by_cases e : m = n
              · simp [e]
              · rw [if_neg (by omega), if_neg e]

theorem H.get_set (t : H) (n : Nat) (x : Blk) (m : Nat) : (t.set n x).get m = if m = n then some x else t.get m := H.get_put _ t n x m (by omega)
@[simp] theorem H.get_set_same (t : H) (n : Nat) (x : Blk) : (t.set n x).get n = some x := by rw [H.get_set]; simp
theorem H.get_set_ne (t : H) {n m : Nat} (x : Blk) (h : m ≠ n) : (t.set n x).get m = t.get m := by rw [H.get_set]; simp [h]

/-! ## Values that are alike -/

/-- Where a block lies in the world: from 'off' on, up to 'lim', in the block 'blk'. -/
structure Loc where
  blk : Nat
  off : Nat
  lim : Nat

abbrev Map := Nat → Option Loc

/-- From here on a capacity isn't known: U + s, where an element has s cells. -/
def U : Nat := 18446744073709551616

/-- What a slice's address and capacity are in the world. -/
structure SL (L : Loc) (o len cap : Nat) (a' : Addr) (cap' : Nat) : Prop where
  known : cap < U → cap' = cap
  le : len ≤ cap'
  at_ : cap' ≠ 0 → a' = ⟨L.blk, L.off + o, none⟩
  lim : ∀ s, cap = U + s → L.off + o + cap' * s = L.lim

inductive VR (ρ : Map) : Value → Value → Prop where
  | bool (b : Bool) : VR ρ (.bool b) (.bool b)
  | int (k : IntKind) (n : Int) : VR ρ (.int k n) (.int k n)
  | string (s : ByteArray) : VR ρ (.string s) (.string s)
  | nilptr : VR ρ (.pointer none) (.pointer none)
  | ptr (b o : Nat) (L : Loc) : ρ b = some L → VR ρ (.pointer (some ⟨b, o, none⟩)) (.pointer (some ⟨L.blk, L.off + o, none⟩))
  | nilslice : VR ρ (.slice none 0 0) (.slice none 0 0)
  | slice (b o len cap : Nat) (a' : Addr) (cap' : Nat) (L : Loc) : ρ b = some L → SL L o len cap a' cap' → VR ρ (.slice (some ⟨b, o, none⟩) len cap) (.slice (some a') len cap')
  | func (fn : Fn) (cs cs' : Array Value) : cs.size = cs'.size → (∀ (i : Nat) v v', cs[i]? = some v → cs'[i]? = some v' → VR ρ v v') → VR ρ (.func fn #[] cs) (.func fn #[] cs')
  | nilFunc : VR ρ .nilFunc .nilFunc
  | nilIface : VR ρ .nilIface .nilIface
  | iface (t : TypeId) (v v' : Value) : VR ρ v v' → VR ρ (.iface t v) (.iface t v')
  | agg (cs cs' : Array Value) : cs.size = cs'.size → (∀ (i : Nat) v v', cs[i]? = some v → cs'[i]? = some v' → VR ρ v v') → VR ρ (.agg cs) (.agg cs')
  | tuple (cs cs' : Array Value) : cs.size = cs'.size → (∀ (i : Nat) v v', cs[i]? = some v → cs'[i]? = some v' → VR ρ v v') → VR ρ (.tuple cs) (.tuple cs')
  | nilmap : VR ρ (.map none) (.map none)
  | map (b : Nat) (L : Loc) : ρ b = some L → VR ρ (.map (some b)) (.map (some L.blk))

def Le (ρ ρ' : Map) : Prop := ∀ b L, ρ b = some L → ρ' b = some L
theorem Le.refl (ρ : Map) : Le ρ ρ := fun _ _ h => h
theorem Le.trans {a b c : Map} (h : Le a b) (k : Le b c) : Le a c := fun x L hx => k x L (h x L hx)

theorem VR.mono {ρ ρ' : Map} (h : Le ρ ρ') {v v' : Value} (hv : VR ρ v v') : VR ρ' v v' := by
  induction hv with
  | bool b => exact .bool b
  | int k n => exact .int k n
  | string s => exact .string s
  | nilptr => exact .nilptr
  | ptr b o L hb => exact .ptr b o L (h _ _ hb)
  | nilslice => exact .nilslice
  | slice b o len cap a' cap' L hb hs => exact .slice b o len cap a' cap' L (h _ _ hb) hs
  | func fn cs cs' hs _ ih => exact .func fn cs cs' hs ih
  | nilFunc => exact .nilFunc
  | nilIface => exact .nilIface
  | iface t v v' _ ih => exact .iface t v v' ih
  | agg cs cs' hs _ ih => exact .agg cs cs' hs ih
  | tuple cs cs' hs _ ih => exact .tuple cs cs' hs ih
  | nilmap => exact .nilmap
  | map b L hb => exact .map b L (h _ _ hb)

/-- What an operation that isn't wanted leaves. -/
def skipV : Value := .tuple #[.nilFunc]
def VW (ρ : Map) (v v' : Value) : Prop := (v = undef ∨ v = skipV ∧ v' = undef) ∨ VR ρ v v'
theorem VW.mono {ρ ρ' : Map} (h : Le ρ ρ') {v v' : Value} (hv : VW ρ v v') : VW ρ' v v' := hv.imp id (VR.mono h)
theorem VR.weak {ρ : Map} {v v' : Value} (h : VR ρ v v') : VW ρ v v' := .inr h

/-- One cell's value: no struct, no tuple. -/
def one : Value → Bool
  | .agg _ => false
  | .tuple _ => false
  | _ => true

theorem one_oneCell' {v : Value} : one v = v.oneCell' := by cases v <;> rfl
theorem VR.one {ρ : Map} {v v' : Value} (h : VR ρ v v') : Fw.one v' = Fw.one v := by cases h <;> rfl
theorem VW.strict {ρ : Map} {v v' : Value} (h : VW ρ v v') (h1 : Fw.one v = true) : VR ρ v v' := by
  rcases h with (rfl | ⟨rfl, _⟩) | h
  · simp [undef, Fw.one] at h1
  · simp [skipV, Fw.one] at h1
  · exact h
theorem cells_of_one {v : Value} (h : one v = true) : v.cells = #[v] := by cases v <;> first | rfl | simp [one] at h

/-! ## What an abstract heap says of a world -/

def Blk.live (B : Blk) : Prop := B.kind ≠ .dead
def Blk.mine (B : Blk) : Prop := B.kind = .own ∨ B.kind = .grow

structure BlkOK (ρ : Map) (w : World) (L : Loc) (B : Blk) : Prop where
  obj : ∃ arr elem fz, w.heap[L.blk]? = some (.cells arr elem fz) ∧ (B.mine → fz = (0, 0)) ∧ L.lim ≤ arr.size ∧
    ∀ (i : Nat) v, B.cells[i]? = some v → ∃ v', arr[L.off + i]? = some v' ∧ VR ρ v v'
  fits : L.off + B.cells.length ≤ L.lim
  exact : B.kind = .own → L.lim = L.off + B.cells.length

/-- A map's block: its entries lie behind a mark; nobody looks at it as at cells. -/
def Blk.isMap (B : Blk) : Prop := B.kind = .dead ∧ B.cells.head? = some .nilFunc
def wf64 : Value → Bool
  | .int .i64 z => (Lit.int .i64 z).wf
  | _ => false
/-- A map's key: a number (0), or so many numbers. -/
def ikey : Nat → Value → Bool
  | 0, v => wf64 v
  | n + 1, .agg cs => decide (cs.size = n + 1) && cs.toList.all wf64
  | _, _ => false
/-- Entries: a key, what lies there, when it was born. -/
def flatE : List (Value × Value × Nat) → List Value
  | [] => []
  | (k, v, t) :: r => k :: v :: .int .i64 t :: flatE r
def mapB (n c : Nat) (E : List (Value × Value × Nat)) : Blk := ⟨.nilFunc :: .int .u64 n :: .int .u64 c :: flatE E, .dead⟩
theorem isMap_mapB (n c : Nat) (E : List (Value × Value × Nat)) : (mapB n c E).isMap := ⟨rfl, rfl⟩
/-- The block of a walk over a map: which map, the clock when it began, the clock at its last step, whom it has told. -/
def iterB (m since last : Nat) (seen : List Nat) : Blk := ⟨.nilFunc :: .bool true :: .int .u64 m :: .int .u64 since :: .int .u64 last :: seen.map (fun t : Nat => Value.int .u64 t), .dead⟩
theorem isMap_iterB (m since last : Nat) (seen : List Nat) : (iterB m since last seen).isMap := ⟨rfl, rfl⟩
def MapIs (ρ : Map) (w : World) (L : Loc) (B : Blk) : Prop := ∃ n E es clock, B = mapB n clock E ∧ w.heap[L.blk]? = some (.map es clock) ∧ E.length = es.size ∧ (∀ p, p ∈ E → ikey n p.1 = true) ∧ E.Pairwise (fun p q => p.1 ≠ q.1) ∧
    ∀ (i : Nat) p e, E[i]? = some p → es[i]? = some e → p.1 = e.key ∧ VR ρ p.2.1 e.val ∧ p.2.2 = e.born
def IterIs (ρ : Map) (w : World) (L : Loc) (B : Blk) : Prop := ∃ m since last seen Lm, B = iterB m since last seen ∧ ρ m = some Lm ∧ w.heap[L.blk]? = some (.mapIter (some Lm.blk) since seen.toArray last) ∧ L.off = 0
/-- A walk over no map. -/
def iterNB : Blk := ⟨[.nilFunc, .bool false], .dead⟩
def NilIs (w : World) (L : Loc) (B : Blk) : Prop := B = iterNB ∧ w.heap[L.blk]? = some (.mapIter none 0 #[] 0) ∧ L.off = 0
/-- A map that is looked into, and no more: in what order its entries lie, and when they were born, is not told. -/
def lookB (n : Nat) (E : List (Value × Value × Nat)) : Blk := ⟨.nilFunc :: .int .i64 n :: flatE E, .dead⟩
def LookIs (ρ : Map) (w : World) (L : Loc) (B : Blk) : Prop := ∃ (n : Nat) (E E' : List (Value × Value × Nat)) (es : Array MapEntry) (clock : Nat), B = lookB n E ∧ w.heap[L.blk]? = some (.map es clock) ∧ E'.length = es.size ∧ (∀ p, p ∈ E' → ikey n p.1 = true) ∧ E'.Pairwise (fun p q => p.1 ≠ q.1) ∧
    (∀ (i : Nat) p e, E'[i]? = some p → es[i]? = some e → p.1 = e.key ∧ VR ρ p.2.1 e.val) ∧ List.Perm (E.map fun p : Value × Value × Nat => (p.1, p.2.1)) (E'.map fun p : Value × Value × Nat => (p.1, p.2.1))
structure MapOK (ρ : Map) (w : World) (L : Loc) (B : Blk) : Prop where
  obj : MapIs ρ w L B ∨ IterIs ρ w L B ∨ NilIs w L B ∨ LookIs ρ w L B

theorem MapOK.keep {ρ ρ' : Map} {w w' : World} {L : Loc} {B : Blk} (x : MapOK ρ w L B) (hle : Le ρ ρ') (hw : w'.heap[L.blk]? = w.heap[L.blk]?) : MapOK ρ' w' L B := by
  rcases x.obj with ⟨n, E, es, clock, e1, e2, e3, e4, e5, e6⟩ | ⟨m, since, last, seen, Lm, e1, e2, e3, e4⟩ | ⟨e1, e2, e3⟩ | ⟨n, E, E', es, clock, e1, e2, e3, e4, e5, e6, e7⟩
  · exact ⟨.inl ⟨n, E, es, clock, e1, by rw [hw]; exact e2, e3, e4, e5, fun i p x hp hx => ⟨(e6 i p x hp hx).1, (e6 i p x hp hx).2.1.mono hle, (e6 i p x hp hx).2.2⟩⟩⟩
  · exact ⟨.inr (.inl ⟨m, since, last, seen, Lm, e1, hle _ _ e2, by rw [hw]; exact e3, e4⟩)⟩
  · exact ⟨.inr (.inr (.inl ⟨e1, by rw [hw]; exact e2, e3⟩))⟩
  · exact ⟨.inr (.inr (.inr ⟨n, E, E', es, clock, e1, by rw [hw]; exact e2, e3, e4, e5, fun i p x hp hx => ⟨(e6 i p x hp hx).1, (e6 i p x hp hx).2.mono hle⟩, e7⟩))⟩
theorem MapOK.lt {ρ : Map} {w : World} {L : Loc} {B : Blk} (x : MapOK ρ w L B) : L.blk < w.heap.size := by
  rcases x.obj with ⟨n, E, es, clock, e1, e2, _⟩ | ⟨m, since, last, seen, Lm, e1, e2, e3, _⟩ | ⟨e1, e2, _⟩ | ⟨n, E, E', es, clock, e1, e2, _⟩
  · exact (Array.getElem?_eq_some_iff.1 e2).1
  · exact (Array.getElem?_eq_some_iff.1 e3).1
  · exact (Array.getElem?_eq_some_iff.1 e2).1
  · exact (Array.getElem?_eq_some_iff.1 e2).1
theorem MapOK.no {ρ : Map} {w : World} {L : Loc} {B : Blk} (x : MapOK ρ w L B) {c : Array Value} {t : TypeId} {fz : Nat × Nat} (h : w.heap[L.blk]? = some (.cells c t fz)) : False := by
  rcases x.obj with ⟨n, E, es, clock, e1, e2, _⟩ | ⟨m, since, last, seen, Lm, e1, e2, e3, _⟩ | ⟨e1, e2, _⟩ | ⟨n, E, E', es, clock, e1, e2, _⟩
  · rw [h] at e2; cases e2
  · rw [h] at e3; cases e3
  · rw [h] at e2; cases e2
  · rw [h] at e2; cases e2

structure R (G : Nat) (ρ : Map) (h : H) (w : World) : Prop where
  dom : ∀ b, (h.get b).isSome = (ρ b).isSome
  glob : ∀ g, g < G → ∃ lim, ρ g = some ⟨g, 0, lim⟩
  blk : ∀ b B L, h.get b = some B → B.live → ρ b = some L → BlkOK ρ w L B
  apart : ∀ b c B C L M, b ≠ c → h.get b = some B → h.get c = some C → B.live → C.mine → ρ b = some L → ρ c = some M → L.blk ≠ M.blk
  maps : ∀ b B L, h.get b = some B → B.isMap → ρ b = some L → MapOK ρ w L B
  lone : ∀ b c B C L M, b ≠ c → h.get b = some B → h.get c = some C → B.isMap → C.isMap → ρ b = some L → ρ c = some M → L.blk ≠ M.blk

/-- A block of the world that is written. -/
def Blk.ours (B : Blk) : Prop := B.mine ∨ B.isMap
def Own (ρ : Map) (h : H) (k : Nat) : Prop := ∃ b B L, h.get b = some B ∧ B.ours ∧ ρ b = some L ∧ L.blk = k

structure Ext (ρ : Map) (h : H) (w : World) (ρ' : Map) (h' : H) (w' : World) : Prop where
  le : Le ρ ρ'
  os : w'.os = w.os
  tape : w'.tape = w.tape
  output : w'.output = w.output
  size : w.heap.size ≤ w'.heap.size
  frame : ∀ k, k < w.heap.size → ¬ Own ρ h k → w'.heap[k]? = w.heap[k]?
  owns : ∀ k, k < w.heap.size → Own ρ' h' k → Own ρ h k

theorem Ext.refl (ρ : Map) (h : H) (w : World) : Ext ρ h w ρ h w := ⟨Le.refl _, rfl, rfl, rfl, Nat.le_refl _, fun _ _ _ => rfl, fun _ _ h => h⟩
theorem Ext.trans {ρ₁ ρ₂ ρ₃ : Map} {h₁ h₂ h₃ : H} {w₁ w₂ w₃ : World} (a : Ext ρ₁ h₁ w₁ ρ₂ h₂ w₂) (b : Ext ρ₂ h₂ w₂ ρ₃ h₃ w₃) : Ext ρ₁ h₁ w₁ ρ₃ h₃ w₃ :=
  ⟨a.le.trans b.le, b.os.trans a.os, b.tape.trans a.tape, b.output.trans a.output, Nat.le_trans a.size b.size,
    fun k hk hn => (b.frame k (Nat.lt_of_lt_of_le hk a.size) fun ho => hn (a.owns k hk ho)).trans (a.frame k hk hn),
    fun k hk ho => a.owns k hk (b.owns k (Nat.lt_of_lt_of_le hk a.size) ho)⟩

/-- A draw turns nothing. -/
theorem R.drew {G : Nat} {ρ : Map} {h : H} {w : World} (r : R G ρ h w) : R G ρ h w.drew := ⟨r.dom, r.glob, fun b B L hb hl hr => let o := r.blk b B L hb hl hr; ⟨o.obj, o.fits, o.exact⟩, r.apart, fun b B L hb hm hr => (r.maps b B L hb hm hr).keep (Le.refl _) rfl, r.lone⟩
theorem Ext.drew (ρ : Map) (h : H) (w : World) : Ext ρ h w ρ h w.drew := ⟨Le.refl _, rfl, rfl, rfl, Nat.le_refl _, fun _ _ _ => rfl, fun _ _ h => h⟩

/-- A cell of a live block. -/
theorem R.cell {G : Nat} {ρ : Map} {h : H} {w : World} (r : R G ρ h w) {b : Nat} {B : Blk} (hb : h.get b = some B) (hl : B.live) {L : Loc} (hL : ρ b = some L) {i : Nat} {v : Value} (hv : B.cells[i]? = some v) :
    ∃ v', w.cell? ⟨L.blk, L.off + i, none⟩ = some v' ∧ VR ρ v v' := by
  obtain ⟨arr, elem, fz, ho, _, _, hc⟩ := (r.blk b B L hb hl hL).obj
  obtain ⟨v', h1, h2⟩ := hc i v hv
  exact ⟨v', by simp [World.cell?, ho, h1], h2⟩

theorem R.loc {G : Nat} {ρ : Map} {h : H} {w : World} (r : R G ρ h w) {b : Nat} {B : Blk} (hb : h.get b = some B) : ∃ L, ρ b = some L := by
  have := r.dom b
  rw [hb] at this
  exact Option.isSome_iff_exists.1 this.symm

theorem R.unfrozen {G : Nat} {ρ : Map} {h : H} {w : World} (r : R G ρ h w) {b : Nat} {B : Blk} (hb : h.get b = some B) (hm : B.mine) {L : Loc} (hL : ρ b = some L) (o : Nat) :
    w.frozen? ⟨L.blk, o, none⟩ = false := by
  obtain ⟨arr, elem, fz, ho, hf, _, _⟩ := (r.blk b B L hb (by rcases hm with h | h <;> simp [Blk.live, h]) hL).obj
  simp [World.frozen?, ho, hf hm]

theorem Blk.mine.live {B : Blk} (h : B.mine) : B.live := by rcases h with h | h <;> simp [Blk.live, h]

end Go.Fw
end
section
namespace Go.Fw

/-! ## The monad: what is run is local: in a heap that has more, it does the same -/

/-- K has all that h has, and just so. -/
def Sub (h k : H) : Prop := ∀ b B, h.get b = some B → k.get b = some B

structure Loc1 {α : Type} (f : Nat → H → Option (α × Nat × H)) (n : Nat) (h : H) (a : α) (n' : Nat) (h' : H) : Prop where
  le : n ≤ n'
  fresh : ∀ b, n ≤ b → b < n' → h.get b = none
  dom : ∀ b, (h'.get b).isSome = true ↔ ((h.get b).isSome = true ∨ (n ≤ b ∧ b < n'))
  more : ∀ k, Sub h k → (∀ b, n ≤ b → b < n' → k.get b = none) → ∃ k', f n k = some (a, n', k') ∧ ∀ b, k'.get b = if (h'.get b).isSome then h'.get b else k.get b

def Local {α : Type} (f : Nat → H → Option (α × Nat × H)) : Prop := ∀ n h a n' h', f n h = some (a, n', h') → Loc1 f n h a n' h'

structure M (α : Type) where
  run : Nat → H → Option (α × Nat × H)
  loc : Local run

instance {α : Type} : CoeFun (M α) (fun _ => Nat → H → Option (α × Nat × H)) := ⟨M.run⟩

theorem M.ext {α : Type} {m m' : M α} (h : ∀ n k, m n k = m' n k) : m = m' := by
  obtain ⟨f, _⟩ := m
  obtain ⟨g, _⟩ := m'
  have : f = g := funext fun n => funext fun k => h n k
  subst this
  rfl

theorem Local.same {α : Type} (a : α) : Local fun n h => some (a, n, h) := by
  intro n h b n' h' e
  simp only [Option.some.injEq, Prod.mk.injEq] at e
  obtain ⟨rfl, rfl, rfl⟩ := e
  refine ⟨Nat.le_refl _, fun b h1 h2 => by omega, fun b => ⟨.inl, fun h => h.elim id fun h => by omega⟩, fun k hk _ => ⟨k, rfl, fun b => ?_⟩⟩
  split
  · rename_i hs
    obtain ⟨B, hB⟩ := Option.isSome_iff_exists.1 hs
    rw [hB, hk b B hB]
  · rfl

/-- What only looks, and tells the same of what is the same. -/
theorem Local.look {α : Type} (f : Nat → H → Option (α × Nat × H)) (h1 : ∀ n h a n' h', f n h = some (a, n', h') → n' = n ∧ h' = h)
    (h2 : ∀ n h k a n' h', f n h = some (a, n', h') → Sub h k → f n k = some (a, n, k)) : Local f := by
  intro n h b n' h' e
  obtain ⟨rfl, rfl⟩ := h1 _ _ _ _ _ e
  refine ⟨Nat.le_refl _, fun b h1 h2 => by omega, fun b => ⟨.inl, fun h => h.elim id fun h => by omega⟩, fun k hk _ => ⟨k, h2 _ _ k _ _ _ e hk, fun b => ?_⟩⟩
  split
  · rename_i hs
    obtain ⟨B, hB⟩ := Option.isSome_iff_exists.1 hs
    rw [hB, hk b B hB]
  · rfl

/-- What turns one block that is there. -/
theorem Local.turn {α : Type} (f : Nat → H → Option (α × Nat × H)) (h1 : ∀ n h a n' h', f n h = some (a, n', h') → n' = n ∧ ∃ b B, (h.get b).isSome = true ∧ h' = h.set b B ∧ ∀ k : H, k.get b = h.get b → f n k = some (a, n, k.set b B)) : Local f := by
  intro n h b n' h' e
  obtain ⟨rfl, b0, B, hb, rfl, hf⟩ := h1 _ _ _ _ _ e
  refine ⟨Nat.le_refl _, fun b h1 h2 => by omega, fun b => ?_, fun k hk _ => ⟨k.set b0 B, hf k ?_, fun b => ?_⟩⟩
  · rw [H.get_set]
    split
    · rename_i e; subst e; simp [hb]
    · exact ⟨.inl, fun h => h.elim id fun h => by omega⟩
  · obtain ⟨C, hC⟩ := Option.isSome_iff_exists.1 hb
    rw [hC, hk b0 C hC]
  · rw [H.get_set, H.get_set]
    split
    · rfl
    · split
      · rename_i hs
        obtain ⟨C, hC⟩ := Option.isSome_iff_exists.1 hs
        rw [hC, hk b C hC]
      · rfl

theorem Local.nothing {α : Type} : Local fun (_ : Nat) (_ : H) => (none : Option (α × Nat × H)) := by
  intro n h b n' h' e
  cases e

theorem Local.bind {α β : Type} (m : M α) (k : α → M β) : Local fun n h =>
    match m n h with
    | none => none
    | some (a, n', h') => k a n' h' := by
  intro n h b n2 h2 e
  dsimp only at e
  split at e
  · cases e
  · rename_i a n1 h1 e1
    have l1 := m.loc _ _ _ _ _ e1
    have l2 := (k a).loc _ _ _ _ _ e
    refine ⟨Nat.le_trans l1.le l2.le, fun b hb1 hb2 => ?_, fun b => ?_, fun K hK hf => ?_⟩
    · by_cases hlt : b < n1
      · exact l1.fresh b hb1 hlt
      · have := l2.fresh b (by omega) hb2
        cases hg : h.get b with
        | none => rfl
        | some B =>
          have : (h1.get b).isSome = true := (l1.dom b).2 (.inl (by rw [hg]; rfl))
          rw [l2.fresh b (by omega) hb2] at this
          cases this
    · rw [l2.dom, l1.dom]
      have := l1.le; have := l2.le
      constructor
      · rintro ((h | h) | h)
        · exact .inl h
        · exact .inr (by omega)
        · exact .inr (by omega)
      · rintro (h | h)
        · exact .inl (.inl h)
        · by_cases hlt : b < n1
          · exact .inl (.inr (by omega))
          · exact .inr (by omega)
    · have := l1.le; have := l2.le
      obtain ⟨K1, hK1, hg1⟩ := l1.more K hK fun b hb1 hb2 => hf b hb1 (by omega)
      obtain ⟨K2, hK2, hg2⟩ := l2.more K1 (fun b B hB => by rw [hg1, hB]; rfl) fun b hb1 hb2 => by
        rw [hg1]
        have hKb := hf b (by omega) hb2
        have hn : h1.get b = none := l2.fresh b hb1 hb2
        rw [hn]; exact hKb
      refine ⟨K2, by rw [hK1]; exact hK2, fun b => ?_⟩
      rw [hg2]
      by_cases hs : (h2.get b).isSome = true
      · simp only [hs, if_true]
      · simp only [hs, if_false, Bool.false_eq_true]
        rw [hg1]
        have hn : ¬ (h1.get b).isSome = true := fun h => hs ((l2.dom b).2 (.inl h))
        simp only [hn, if_false, Bool.false_eq_true]

def ret {α : Type} (a : α) : M α := ⟨fun n h => some (a, n, h), Local.same a⟩
def bnd {α β : Type} (m : M α) (k : α → M β) : M β := ⟨fun n h =>
  match m.run n h with
  | none => none
  | some (a, n', h') => (k a).run n' h', Local.bind m k⟩
def fail {α : Type} : M α := ⟨fun _ _ => none, Local.nothing⟩

theorem bnd_some {α β : Type} {m : M α} {k : α → M β} {n : Nat} {h : H} {x : β × Nat × H} (e : bnd m k n h = some x) : ∃ a n' h', m n h = some (a, n', h') ∧ k a n' h' = some x := by
  unfold bnd at e
  dsimp only at e
  split at e
  · cases e
  · rename_i a n' h' e'
    exact ⟨a, n', h', e', e⟩
theorem bnd_of {α β : Type} {m : M α} {k : α → M β} {n n' : Nat} {h h' : H} {a : α} (e : m n h = some (a, n', h')) : bnd m k n h = k a n' h' := by
  unfold bnd; dsimp only; rw [e]
@[simp] theorem ret_bnd {α β : Type} (a : α) (k : α → M β) : bnd (ret a) k = k a := rfl
@[simp] theorem bnd_ret {α : Type} (m : M α) : bnd m ret = m := by
  refine M.ext fun n h => ?_
  unfold bnd ret; dsimp only
  cases m.run n h <;> rfl
@[simp] theorem bnd_assoc {α β γ : Type} (m : M α) (k : α → M β) (l : β → M γ) : bnd (bnd m k) l = bnd m fun a => bnd (k a) l := by
  refine M.ext fun n h => ?_
  unfold bnd; dsimp only
  cases m.run n h <;> rfl
@[simp] theorem fail_bnd {α β : Type} (k : α → M β) : bnd (fail : M α) k = fail := rfl

/-! ## Steps on the heap -/

def dead : Blk := ⟨[], .dead⟩

def rdF (b o : Nat) : Nat → H → Option (Value × Nat × H) := fun n h =>
  match h.get b with
  | some ⟨_, .dead⟩ => none
  | some ⟨cs, _⟩ => match cs[o]? with
    | some v => some (v, n, h)
    | none => none
  | none => none

def rdNF (b o k : Nat) : Nat → H → Option (List Value × Nat × H) := fun n h =>
  match h.get b with
  | some ⟨_, .dead⟩ => none
  | some ⟨cs, _⟩ => if o + k ≤ cs.length then some ((cs.drop o).take k, n, h) else none
  | none => none

/-- A list in which some have been put over, from a place on. -/
def over (cs : List Value) (o : Nat) (vs : List Value) : List Value := cs.take o ++ vs ++ cs.drop (o + vs.length)

def wr1F (b o : Nat) (v : Value) : Nat → H → Option (Unit × Nat × H) := fun n h =>
  if one v then
    match h.get b with
    | some ⟨cs, .own⟩ => if o < cs.length then some ((), n, h.set b ⟨cs.set o v, .own⟩) else none
    | some ⟨cs, .grow⟩ => if o < cs.length then some ((), n, h.set b ⟨cs.set o v, .grow⟩) else none
    | _ => none
  else none

def wrNF (b o : Nat) (vs : List Value) : Nat → H → Option (Unit × Nat × H) := fun n h =>
  if vs.all one then
    match h.get b with
    | some ⟨cs, .own⟩ => if o + vs.length ≤ cs.length then some ((), n, h.set b ⟨over cs o vs, .own⟩) else none
    | some ⟨cs, .grow⟩ => if o + vs.length ≤ cs.length then some ((), n, h.set b ⟨over cs o vs, .grow⟩) else none
    | _ => none
  else none

def newF (cs : List Value) (k : Kind) : Nat → H → Option (Nat × Nat × H) := fun n h =>
  if cs.all one then
    match h.get n with
    | none => some (n, n + 1, h.set n ⟨cs, k⟩)
    | some _ => none
  else none

def killF (b : Nat) : Nat → H → Option (Unit × Nat × H) := fun n h =>
  match h.get b with
  | some ⟨_, .grow⟩ => some ((), n, h.set b dead)
  | _ => none

theorem rdF_local (b o : Nat) : Local (rdF b o) := by
  refine Local.look _ (fun n h a n' h' e => ?_) (fun n h k a n' h' e hk => ?_)
  · unfold rdF at e
    split at e
    · cases e
    · split at e
      · simp only [Option.some.injEq, Prod.mk.injEq] at e; exact ⟨e.2.1.symm, e.2.2.symm⟩
      · cases e
    · cases e
  · unfold rdF at e ⊢
    split at e
    · cases e
    · rename_i hb
      rw [hk _ _ hb]
      split at e
      · rename_i hv
        simp only [Option.some.injEq, Prod.mk.injEq] at e
        obtain ⟨rfl, rfl, rfl⟩ := e
        simp [hv]
      · cases e
    · cases e

def roomF (b k : Nat) : Nat → H → Option (Bool × Nat × H) := fun n h =>
  match h.get b with
  | some ⟨cs, .grow⟩ => some (decide (k ≤ cs.length), n, h)
  | _ => none
theorem roomF_local (b k : Nat) : Local (roomF b k) := by
  refine Local.look _ (fun n h a n' h' e => ?_) (fun n h g a n' h' e hk => ?_)
  · unfold roomF at e
    split at e
    · simp only [Option.some.injEq, Prod.mk.injEq] at e; exact ⟨e.2.1.symm, e.2.2.symm⟩
    · cases e
  · unfold roomF at e ⊢
    split at e
    · rename_i hb
      rw [hk _ _ hb]
      simp only [Option.some.injEq, Prod.mk.injEq] at e
      obtain ⟨rfl, rfl, rfl⟩ := e
      rfl
    · cases e

def mpGetF (b : Nat) : Nat → H → Option (List Value × Nat × H) := fun n h =>
  match h.get b with
  | some ⟨.nilFunc :: cs, .dead⟩ => some (cs, n, h)
  | _ => none
def mpSetF (b : Nat) (vs : List Value) : Nat → H → Option (Unit × Nat × H) := fun n h =>
  match h.get b with
  | some ⟨.nilFunc :: _, .dead⟩ => some ((), n, h.set b ⟨.nilFunc :: vs, .dead⟩)
  | _ => none
theorem mpGetF_local (b : Nat) : Local (mpGetF b) := by
  refine Local.look _ (fun n h a n' h' e => ?_) (fun n h k a n' h' e hk => ?_)
  · unfold mpGetF at e
    split at e
    · simp only [Option.some.injEq, Prod.mk.injEq] at e; exact ⟨e.2.1.symm, e.2.2.symm⟩
    · cases e
  · unfold mpGetF at e ⊢
    split at e
    · rename_i hb
      rw [hk _ _ hb]
      simp only [Option.some.injEq, Prod.mk.injEq] at e
      obtain ⟨rfl, rfl, rfl⟩ := e
      rfl
    · cases e
theorem mpSetF_local (b : Nat) (vs : List Value) : Local (mpSetF b vs) := by
  refine Local.turn _ fun n h a n' h' e => ?_
  unfold mpSetF at e
  split at e
  · rename_i cs hb
    simp only [Option.some.injEq, Prod.mk.injEq] at e
    obtain ⟨-, rfl, rfl⟩ := e
    refine ⟨rfl, b, _, by rw [hb]; rfl, rfl, fun k hk => ?_⟩
    unfold mpSetF
    rw [hk, hb]
  · cases e

theorem rdNF_local (b o k : Nat) : Local (rdNF b o k) := by
  refine Local.look _ (fun n h a n' h' e => ?_) (fun n h k a n' h' e hk => ?_)
  · unfold rdNF at e
    split at e
    · cases e
    · split at e
      · simp only [Option.some.injEq, Prod.mk.injEq] at e; exact ⟨e.2.1.symm, e.2.2.symm⟩
      · cases e
    · cases e
  · unfold rdNF at e ⊢
    split at e
    · cases e
    · rename_i hb
      rw [hk _ _ hb]
      split at e
      · rename_i hv
        simp only [Option.some.injEq, Prod.mk.injEq] at e
        obtain ⟨rfl, rfl, rfl⟩ := e
        simp [hv]
      · cases e
    · cases e

theorem wr1F_local (b o : Nat) (v : Value) : Local (wr1F b o v) := by
  refine Local.turn _ fun n h a n' h' e => ?_
  unfold wr1F at e
  split at e
  · rename_i h1
    split at e
    · rename_i cs hb
      split at e
      · rename_i hlt
        simp only [Option.some.injEq, Prod.mk.injEq] at e
        obtain ⟨-, rfl, rfl⟩ := e
        refine ⟨rfl, b, _, by rw [hb]; rfl, rfl, fun k hk => ?_⟩
        simp [wr1F, h1, hk, hb, hlt]
      · cases e
    · rename_i cs hb
      split at e
      · rename_i hlt
        simp only [Option.some.injEq, Prod.mk.injEq] at e
        obtain ⟨-, rfl, rfl⟩ := e
        refine ⟨rfl, b, _, by rw [hb]; rfl, rfl, fun k hk => ?_⟩
        simp [wr1F, h1, hk, hb, hlt]
      · cases e
    · cases e
  · cases e

theorem wrNF_local (b o : Nat) (vs : List Value) : Local (wrNF b o vs) := by
  refine Local.turn _ fun n h a n' h' e => ?_
  unfold wrNF at e
  split at e
  · rename_i h1
    split at e
    · rename_i cs hb
      split at e
      · rename_i hlt
        simp only [Option.some.injEq, Prod.mk.injEq] at e
        obtain ⟨-, rfl, rfl⟩ := e
        refine ⟨rfl, b, _, by rw [hb]; rfl, rfl, fun k hk => ?_⟩
        unfold wrNF
        rw [if_pos h1, hk, hb]
        simp only [hlt, if_true]
      · cases e
    · rename_i cs hb
      split at e
      · rename_i hlt
        simp only [Option.some.injEq, Prod.mk.injEq] at e
        obtain ⟨-, rfl, rfl⟩ := e
        refine ⟨rfl, b, _, by rw [hb]; rfl, rfl, fun k hk => ?_⟩
        unfold wrNF
        rw [if_pos h1, hk, hb]
        simp only [hlt, if_true]
      · cases e
    · cases e
  · cases e

theorem killF_local (b : Nat) : Local (killF b) := by
  refine Local.turn _ fun n h a n' h' e => ?_
  unfold killF at e
  split at e
  · rename_i cs hb
    simp only [Option.some.injEq, Prod.mk.injEq] at e
    obtain ⟨-, rfl, rfl⟩ := e
    refine ⟨rfl, b, _, by rw [hb]; rfl, rfl, fun k hk => ?_⟩
    simp [killF, hk, hb]
  · cases e

theorem newF_local (cs : List Value) (kd : Kind) : Local (newF cs kd) := by
  intro n h a n' h' e
  unfold newF at e
  split at e
  · rename_i h1
    split at e
    · rename_i hn
      simp only [Option.some.injEq, Prod.mk.injEq] at e
      obtain ⟨rfl, rfl, rfl⟩ := e
      refine ⟨by omega, fun b hb1 hb2 => by rw [show b = n by omega]; exact hn, fun b => ?_, fun k hk hf => ?_⟩
      · rw [H.get_set]
        split
        · rename_i e; subst e; simp
        · exact ⟨.inl, fun h => h.elim id fun h => by omega⟩
      · refine ⟨k.set n ⟨cs, kd⟩, by simp [newF, h1, hf n (Nat.le_refl _) (by omega)], fun b => ?_⟩
        rw [H.get_set, H.get_set]
        split
        · rfl
        · split
          · rename_i hs
            obtain ⟨C, hC⟩ := Option.isSome_iff_exists.1 hs
            rw [hC, hk b C hC]
          · rfl
    · cases e
  · cases e

def rd (b o : Nat) : M Value := ⟨rdF b o, rdF_local b o⟩
def rdN (b o k : Nat) : M (List Value) := ⟨rdNF b o k, rdNF_local b o k⟩
def wr1 (b o : Nat) (v : Value) : M Unit := ⟨wr1F b o v, wr1F_local b o v⟩
def wrN (b o : Nat) (vs : List Value) : M Unit := ⟨wrNF b o vs, wrNF_local b o vs⟩
def new (cs : List Value) (k : Kind) : M Nat := ⟨newF cs k, newF_local cs k⟩
def kill (b : Nat) : M Unit := ⟨killF b, killF_local b⟩
/-- Are there so many cells? -/
def room (b k : Nat) : M Bool := ⟨roomF b k, roomF_local b k⟩

def mpGet (b : Nat) : M (List Value) := ⟨mpGetF b, mpGetF_local b⟩
def mpSet (b : Nat) (vs : List Value) : M Unit := ⟨mpSetF b vs, mpSetF_local b vs⟩

/-! ## What they say -/

theorem mpGet_some {b n n' : Nat} {h h' : H} {cs : List Value} (e : mpGet b n h = some (cs, n', h')) : n' = n ∧ h' = h ∧ h.get b = some ⟨.nilFunc :: cs, .dead⟩ := by
  replace e : mpGetF b n h = some (cs, n', h') := e
  unfold mpGetF at e
  split at e
  · rename_i hb
    simp only [Option.some.injEq, Prod.mk.injEq] at e
    obtain ⟨rfl, rfl, rfl⟩ := e
    exact ⟨rfl, rfl, hb⟩
  · cases e
theorem mpSet_some {b n n' : Nat} {h h' : H} {vs : List Value} {u : Unit} (e : mpSet b vs n h = some (u, n', h')) : n' = n ∧ h' = h.set b ⟨.nilFunc :: vs, .dead⟩ := by
  replace e : mpSetF b vs n h = some (u, n', h') := e
  unfold mpSetF at e
  split at e
  · simp only [Option.some.injEq, Prod.mk.injEq, true_and] at e
    exact ⟨e.1.symm, e.2.symm⟩
  · cases e

theorem rd_some {b o n n' : Nat} {h h' : H} {v : Value} (e : rd b o n h = some (v, n', h')) : n' = n ∧ h' = h ∧ ∃ B, h.get b = some B ∧ B.live ∧ B.cells[o]? = some v := by
  replace e : rdF b o n h = some (v, n', h') := e
  unfold rdF at e
  split at e
  · cases e
  · rename_i cs k hk hb
    split at e
    · rename_i v' hv
      simp only [Option.some.injEq, Prod.mk.injEq] at e
      obtain ⟨rfl, rfl, rfl⟩ := e
      exact ⟨rfl, rfl, _, hb, fun hd => hk hd, hv⟩
    · cases e
  · cases e

theorem rdN_some {b o k n n' : Nat} {h h' : H} {vs : List Value} (e : rdN b o k n h = some (vs, n', h')) :
    n' = n ∧ h' = h ∧ vs.length = k ∧ ∃ B, h.get b = some B ∧ B.live ∧ ∀ (j : Nat), j < k → vs[j]? = B.cells[o + j]? ∧ o + j < B.cells.length := by
  replace e : rdNF b o k n h = some (vs, n', h') := e
  unfold rdNF at e
  split at e
  · cases e
  · rename_i cs kd hk hb
    split at e
    · rename_i hle
      simp only [Option.some.injEq, Prod.mk.injEq] at e
      obtain ⟨rfl, rfl, rfl⟩ := e
      refine ⟨rfl, rfl, ?_, _, hb, fun hd => hk hd, fun j hj => ⟨?_, ?_⟩⟩
      · simp; omega
      · simp [List.getElem?_take, hj]
      · simp; omega
    · cases e
  · cases e

theorem over_length {cs : List Value} {o : Nat} {vs : List Value} (h : o + vs.length ≤ cs.length) : (over cs o vs).length = cs.length := by
  simp [over]; omega

theorem over_get {cs : List Value} {o : Nat} {vs : List Value} (h : o + vs.length ≤ cs.length) (i : Nat) :
    (over cs o vs)[i]? = if o ≤ i ∧ i < o + vs.length then vs[i - o]? else cs[i]? := by
  unfold over
  by_cases h1 : i < o
  · rw [if_neg (by omega), List.append_assoc, List.getElem?_append_left (by simp; omega), List.getElem?_take, if_pos h1]
  · by_cases h2 : i < o + vs.length
    · rw [if_pos (by omega), List.getElem?_append_left (by simp; omega), List.getElem?_append_right (by simp; omega)]
      congr 1; simp; omega
    · rw [if_neg (by omega), List.getElem?_append_right (by simp; omega), List.getElem?_drop]
      congr 1; simp; omega

theorem wrN_some {b o n n' : Nat} {h h' : H} {vs : List Value} {u : Unit} (e : wrN b o vs n h = some (u, n', h')) :
    n' = n ∧ ∃ B, h.get b = some B ∧ B.mine ∧ o + vs.length ≤ B.cells.length ∧ h' = h.set b ⟨over B.cells o vs, B.kind⟩ ∧ vs.all one = true := by
  replace e : wrNF b o vs n h = some (u, n', h') := e
  unfold wrNF at e
  split at e
  · rename_i h1
    split at e
    · rename_i cs hb
      split at e
      · simp only [Option.some.injEq, Prod.mk.injEq, true_and] at e
        obtain ⟨rfl, rfl⟩ := e
        exact ⟨rfl, _, hb, .inl rfl, by assumption, rfl, h1⟩
      · cases e
    · rename_i cs hb
      split at e
      · simp only [Option.some.injEq, Prod.mk.injEq, true_and] at e
        obtain ⟨rfl, rfl⟩ := e
        exact ⟨rfl, _, hb, .inr rfl, by assumption, rfl, h1⟩
      · cases e
    · cases e
  · cases e

theorem set_over {cs : List Value} {o : Nat} {v : Value} (h : o < cs.length) : cs.set o v = over cs o [v] := by
  apply List.ext_getElem?
  intro i
  rw [over_get (by simp; omega), List.getElem?_set]
  by_cases h1 : o = i
  · subst h1; simp [h]
  · rw [if_neg h1, if_neg (by simp; omega)]

theorem wr1_some {b o n n' : Nat} {h h' : H} {v : Value} {u : Unit} (e : wr1 b o v n h = some (u, n', h')) : wrN b o [v] n h = some (u, n', h') := by
  replace e : wr1F b o v n h = some (u, n', h') := e
  show wrNF b o [v] n h = some (u, n', h')
  unfold wr1F at e
  unfold wrNF
  split at e
  · rename_i h1
    simp only [List.all_cons, h1, List.all_nil, Bool.and_self, if_true, List.length_cons, List.length_nil, Nat.zero_add]
    split at e
    · rename_i cs hb
      split at e
      · rename_i hlt
        rw [set_over hlt] at e
        rw [if_pos (by omega)]; exact e
      · cases e
    · rename_i cs hb
      split at e
      · rename_i hlt
        rw [set_over hlt] at e
        rw [if_pos (by omega)]; exact e
      · cases e
    · cases e
  · cases e

theorem new_some {cs : List Value} {k : Kind} {n n' b : Nat} {h h' : H} (e : new cs k n h = some (b, n', h')) :
    b = n ∧ n' = n + 1 ∧ h.get n = none ∧ h' = h.set n ⟨cs, k⟩ ∧ cs.all one = true := by
  replace e : newF cs k n h = some (b, n', h') := e
  unfold newF at e
  split at e
  · rename_i h1
    split at e
    · rename_i hn
      simp only [Option.some.injEq, Prod.mk.injEq] at e
      obtain ⟨rfl, rfl, rfl⟩ := e
      exact ⟨rfl, rfl, hn, rfl, h1⟩
    · cases e
  · cases e

theorem room_some {b k n n' : Nat} {h h' : H} {q : Bool} (e : room b k n h = some (q, n', h')) : n' = n ∧ h' = h ∧ ∃ cs, h.get b = some ⟨cs, .grow⟩ ∧ (q = true → k ≤ cs.length) := by
  replace e : roomF b k n h = some (q, n', h') := e
  unfold roomF at e
  split at e
  · rename_i cs hb
    simp only [Option.some.injEq, Prod.mk.injEq] at e
    obtain ⟨rfl, rfl, rfl⟩ := e
    exact ⟨rfl, rfl, cs, hb, of_decide_eq_true⟩
  · cases e

theorem kill_some {b n n' : Nat} {h h' : H} {u : Unit} (e : kill b n h = some (u, n', h')) : n' = n ∧ ∃ cs, h.get b = some ⟨cs, .grow⟩ ∧ h' = h.set b dead := by
  replace e : killF b n h = some (u, n', h') := e
  unfold killF at e
  split at e
  · rename_i cs hb
    simp only [Option.some.injEq, Prod.mk.injEq, true_and] at e
    obtain ⟨rfl, rfl⟩ := e
    exact ⟨rfl, cs, hb, rfl⟩
  · cases e

/-! ## In a world -/

section
variable {G : Nat} {ρ : Map} {h : H} {w : World}

theorem not_map_dead : ¬ dead.isMap := fun h => by cases h.2
theorem R.kill (r : R G ρ h w) {b : Nat} {B : Blk} (hb : h.get b = some B) : R G ρ (h.set b dead) w := by
  refine ⟨fun c => ?_, r.glob, fun c C L hc hl hL => ?_, fun c d C D L N hne hc hd hlc hmd hL hN => ?_, fun c C L hc hm hL => ?_, fun c d C D L N hne hc hd hm1 hm2 hL hN => ?_⟩
  rotate_left 3
  · rw [H.get_set] at hc
    split at hc
    · simp only [Option.some.injEq] at hc; subst hc; exact absurd hm not_map_dead
    · exact r.maps c C L hc hm hL
  · rw [H.get_set] at hc hd
    split at hc
    · simp only [Option.some.injEq] at hc; subst hc; exact absurd hm1 not_map_dead
    · split at hd
      · simp only [Option.some.injEq] at hd; subst hd; exact absurd hm2 not_map_dead
      · exact r.lone c d C D L N hne hc hd hm1 hm2 hL hN
  · rw [H.get_set]
    split
    · rename_i e; subst e; rw [← r.dom, hb]; rfl
    · exact r.dom c
  · rw [H.get_set] at hc
    split at hc
    · simp only [Option.some.injEq] at hc; subst hc; exact absurd rfl hl
    · exact r.blk c C L hc hl hL
  · rw [H.get_set] at hc hd
    split at hc
    · simp only [Option.some.injEq] at hc; subst hc; exact absurd rfl hlc
    · split at hd
      · simp only [Option.some.injEq] at hd; subst hd; exact absurd rfl hmd.live
      · exact r.apart c d C D L N hne hc hd hlc hmd hL hN

theorem Ext.kill (ρ : Map) (h : H) (w : World) (b : Nat) : Ext ρ h w ρ (h.set b dead) w := by
  refine ⟨Le.refl _, rfl, rfl, rfl, Nat.le_refl _, fun _ _ _ => rfl, fun k _ ho => ?_⟩
  obtain ⟨c, C, L, hc, hm, hL, hk⟩ := ho
  rw [H.get_set] at hc
  split at hc
  · simp only [Option.some.injEq] at hc; subst hc
    rcases hm with hm | hm
    · exact absurd rfl hm.live
    · exact absurd hm not_map_dead
  · exact ⟨c, C, L, hc, hm, hL, hk⟩

/-- One block of the world is turned, at places where no live block lies. -/
structure Poked (w w' : World) (K x y : Nat) : Prop where
  os : w'.os = w.os
  tape : w'.tape = w.tape
  output : w'.output = w.output
  size : w'.heap.size = w.heap.size
  other : ∀ k, k ≠ K → w'.heap[k]? = w.heap[k]?
  here : ∀ arr e fz, w.heap[K]? = some (.cells arr e fz) → ∃ arr', w'.heap[K]? = some (.cells arr' e fz) ∧ arr'.size = arr.size ∧ ∀ i, (i < x ∨ y ≤ i) → arr'[i]? = arr[i]?

theorem R.poke (r : R G ρ h w) {w' : World} {K x y : Nat} (p : Poked w w' K x y) (hcell : ∃ arr e fz, w.heap[K]? = some (.cells arr e fz))
    (hfree : ∀ b B L, h.get b = some B → B.live → ρ b = some L → L.blk = K → L.lim ≤ x ∨ y ≤ L.off) : R G ρ h w' := by
  refine ⟨r.dom, r.glob, fun b B L hb hl hL => ?_, r.apart, fun b B L hb hm hL => ?_, r.lone⟩
  rotate_left
  · have x := r.maps b B L hb hm hL
    obtain ⟨arr, e, fz, hK⟩ := hcell
    have hne : L.blk ≠ K := fun q => x.no (by rw [q]; exact hK)
    exact x.keep (Le.refl _) (p.other _ hne)
  obtain ⟨⟨arr, elem, fz, ho, hf, hlim, hc⟩, hfits, hex⟩ := r.blk b B L hb hl hL
  refine ⟨?_, hfits, hex⟩
  by_cases hk : L.blk = K
  · have hfr := hfree b B L hb hl hL hk
    obtain ⟨arr', h1, h2, h3⟩ := p.here arr elem fz (hk ▸ ho)
    refine ⟨arr', elem, fz, hk ▸ h1, hf, by omega, fun i v hv => ?_⟩
    have hi : i < B.cells.length := (List.getElem?_eq_some_iff.1 hv).1
    rw [h3 _ (by omega)]
    exact hc i v hv
  · exact ⟨arr, elem, fz, by rw [p.other _ hk]; exact ho, hf, hlim, hc⟩

theorem setCells_heap (b : Nat) : ∀ (vs : List Value) (o : Nat) (w : World), 
    (w.setCells b o vs).os = w.os ∧ (w.setCells b o vs).tape = w.tape ∧ (w.setCells b o vs).output = w.output ∧ (w.setCells b o vs).heap.size = w.heap.size ∧
    (∀ k, k ≠ b → (w.setCells b o vs).heap[k]? = w.heap[k]?) ∧
    (∀ arr e fz, w.heap[b]? = some (.cells arr e fz) → ∃ arr', (w.setCells b o vs).heap[b]? = some (.cells arr' e fz) ∧ arr'.size = arr.size ∧
      ∀ i, arr'[i]? = if o ≤ i ∧ i < o + vs.length ∧ i < arr.size then vs[i - o]? else arr[i]?)
  | [], o, w => ⟨rfl, rfl, rfl, rfl, fun _ _ => rfl, fun arr e fz ha => ⟨arr, ha, rfl, fun i => by rw [if_neg (by simp; omega)]⟩⟩
  | v :: vs, o, w => by
    obtain ⟨h1, h2, h3, h4, h5, h6⟩ := setCells_heap b vs (o + 1) (w.setCell ⟨b, o, none⟩ v)
    refine ⟨h1, h2, h3, by simpa [World.setCells] using h4, fun k hk => ?_, fun arr e fz ha => ?_⟩
    · rw [World.setCells, h5 k hk]
      simp only [World.setCell, Array.getElem?_modify]
      rw [if_neg (fun e => hk e.symm)]
    · have hs : (w.setCell ⟨b, o, none⟩ v).heap[b]? = some (.cells (arr.setIfInBounds o v) e fz) := by
        simp [World.setCell, ha, Array.getElem?_modify]
      obtain ⟨arr', g1, g2, g3⟩ := h6 _ _ _ hs
      refine ⟨arr', g1, g2.trans (by simp), fun i => ?_⟩
      rw [g3 i]
      simp only [Array.size_setIfInBounds, List.length_cons, Array.getElem?_setIfInBounds]
      by_cases ho : o = i
      · subst ho
        rw [if_neg (show ¬ (o + 1 ≤ o ∧ o < o + 1 + vs.length ∧ o < arr.size) by omega), if_pos rfl]
        by_cases hlt : o < arr.size
        · rw [if_pos hlt, if_pos ⟨Nat.le_refl _, by omega, hlt⟩]; simp
        · rw [if_neg hlt, if_neg (fun hh => hlt hh.2.2)]; simp [hlt]
      · by_cases hc : o + 1 ≤ i ∧ i < o + 1 + vs.length ∧ i < arr.size
        · rw [if_pos hc, if_pos (by omega)]
          rw [show i - o = (i - (o + 1)) + 1 by omega]; simp
        · rw [if_neg hc, if_neg ho, if_neg (by omega)]

theorem poked_setCells (w : World) (b o : Nat) (vs : List Value) : Poked w (w.setCells b o vs) b o (o + vs.length) := by
  obtain ⟨h1, h2, h3, h4, h5, h6⟩ := setCells_heap b vs o w
  refine ⟨h1, h2, h3, h4, h5, fun arr e fz ha => ?_⟩
  obtain ⟨arr', g1, g2, g3⟩ := h6 arr e fz ha
  exact ⟨arr', g1, g2, fun i hi => by rw [g3, if_neg (by omega)]⟩

/-- Lists of values, alike one by one. -/
def VL (ρ : Map) (vs vs' : List Value) : Prop := vs.length = vs'.length ∧ ∀ (i : Nat) v v', vs[i]? = some v → vs'[i]? = some v' → VR ρ v v'

theorem VL.nil (ρ : Map) : VL ρ [] [] := ⟨rfl, by simp⟩
theorem VL.cons {ρ : Map} {v v' : Value} {vs vs' : List Value} (h : VR ρ v v') (hs : VL ρ vs vs') : VL ρ (v :: vs) (v' :: vs') := by
  refine ⟨by simp [hs.1], fun i u u' hu hu' => ?_⟩
  cases i with
  | zero => simp at hu hu'; subst hu hu'; exact h
  | succ i => exact hs.2 i u u' (by simpa using hu) (by simpa using hu')
theorem VL.mono {ρ ρ' : Map} (h : Le ρ ρ') {vs vs' : List Value} (hs : VL ρ vs vs') : VL ρ' vs vs' := ⟨hs.1, fun i v v' a b => (hs.2 i v v' a b).mono h⟩
theorem VL.get {ρ : Map} {vs vs' : List Value} (h : VL ρ vs vs') {i : Nat} {v : Value} (hv : vs[i]? = some v) : ∃ v', vs'[i]? = some v' ∧ VR ρ v v' := by
  have hi : i < vs'.length := h.1 ▸ (List.getElem?_eq_some_iff.1 hv).1
  exact ⟨vs'[i], List.getElem?_eq_getElem hi, h.2 i v _ hv (List.getElem?_eq_getElem hi)⟩
theorem VL.one {ρ : Map} {vs vs' : List Value} (h : VL ρ vs vs') (h1 : vs.all one = true) : ∀ v ∈ vs', v.oneCell' = true := by
  intro v' hm
  obtain ⟨i, hi, rfl⟩ := List.mem_iff_getElem.1 hm
  have hi' : i < vs.length := h.1 ▸ hi
  have := h.2 i vs[i] vs'[i] (List.getElem?_eq_getElem hi') (List.getElem?_eq_getElem hi)
  rw [← one_oneCell', this.one]
  exact List.all_eq_true.1 h1 _ (List.getElem_mem hi')
theorem VL.append {ρ : Map} {a a' b b' : List Value} (h : VL ρ a a') (k : VL ρ b b') : VL ρ (a ++ b) (a' ++ b') := by
  refine ⟨by simp [h.1, k.1], fun i v v' hv hv' => ?_⟩
  by_cases hi : i < a.length
  · rw [List.getElem?_append_left hi] at hv
    rw [List.getElem?_append_left (h.1 ▸ hi)] at hv'
    exact h.2 i v v' hv hv'
  · rw [List.getElem?_append_right (by omega)] at hv
    rw [List.getElem?_append_right (by have := h.1; omega), ← h.1] at hv'
    exact k.2 _ v v' hv hv'

theorem R.rdN (r : R G ρ h w) {b o k n n' : Nat} {h' : H} {vs : List Value} (e : rdN b o k n h = some (vs, n', h')) :
    n' = n ∧ h' = h ∧ vs.length = k ∧ ∃ L, ρ b = some L ∧ ∃ vs', VL ρ vs vs' ∧ ∀ (j : Nat) v', vs'[j]? = some v' → w.cell? ⟨L.blk, L.off + o + j, none⟩ = some v' := by
  obtain ⟨rfl, rfl, hk, B, hb, hl, hc⟩ := rdN_some e
  obtain ⟨L, hL⟩ := r.loc hb
  refine ⟨rfl, rfl, hk, L, hL, (List.range k).map fun j => (w.cell? ⟨L.blk, L.off + o + j, none⟩).getD undef, ⟨by simp [hk], fun i v v' hv hv' => ?_⟩, fun j v' hv' => ?_⟩
  · have hi : i < k := hk ▸ (List.getElem?_eq_some_iff.1 hv).1
    have hb' := (hc i hi).1
    rw [hv] at hb'
    obtain ⟨u, h1, h2⟩ := r.cell hb hl hL hb'.symm
    rw [← Nat.add_assoc] at h1
    simp [hi, h1] at hv'
    exact hv' ▸ h2
  · have hj : j < k := by have := (List.getElem?_eq_some_iff.1 hv').1; simpa using this
    obtain ⟨hb', hlt⟩ := hc j hj
    obtain ⟨u, h1, h2⟩ := r.cell hb hl hL (List.getElem?_eq_getElem hlt)
    rw [← Nat.add_assoc] at h1
    simp [hj, h1] at hv'
    rw [h1, hv']

theorem R.rd (r : R G ρ h w) {b o n n' : Nat} {h' : H} {v : Value} (e : rd b o n h = some (v, n', h')) :
    n' = n ∧ h' = h ∧ ∃ L, ρ b = some L ∧ ∃ v', VR ρ v v' ∧ w.cell? ⟨L.blk, L.off + o, none⟩ = some v' := by
  obtain ⟨rfl, rfl, B, hb, hl, hc⟩ := rd_some e
  obtain ⟨L, hL⟩ := r.loc hb
  obtain ⟨u, h1, h2⟩ := r.cell hb hl hL hc
  exact ⟨rfl, rfl, L, hL, u, h2, h1⟩

/-- A store of some cells. -/
theorem R.wrN (r : R G ρ h w) {b o n n' : Nat} {h' : H} {vs : List Value} {u : Unit} (e : wrN b o vs n h = some (u, n', h')) {vs' : List Value} (hv : VL ρ vs vs') :
    n' = n ∧ ∃ L, ρ b = some L ∧ R G ρ h' (w.setCells L.blk (L.off + o) vs') ∧ Ext ρ h w ρ h' (w.setCells L.blk (L.off + o) vs') ∧
      (∀ j, j < vs'.length → (w.cell? ⟨L.blk, L.off + o + j, none⟩).isSome = true) ∧ (∀ j, w.frozen? ⟨L.blk, j, none⟩ = false) ∧ (∀ v ∈ vs', v.oneCell' = true) := by
  obtain ⟨rfl, B, hb, hm, hle, rfl, h1⟩ := wrN_some e
  obtain ⟨L, hL⟩ := r.loc hb
  obtain ⟨⟨arr, elem, fz, ho, hf, hlim, hc⟩, hfits, hex⟩ := r.blk b B L hb hm.live hL
  obtain ⟨g1, g2, g3, g4, g5, g6⟩ := setCells_heap L.blk vs' (L.off + o) w
  obtain ⟨arr', k1, k2, k3⟩ := g6 arr elem fz ho
  refine ⟨rfl, L, hL, ⟨fun c => ?_, r.glob, fun c C N hc' hl' hN => ?_, fun c d C D N O hne hc' hd' hl' hm' hN hO => ?_, fun c C N hc' hm' hN => ?_, fun c d C D N O hne hc' hd' hm1 hm2 hN hO => ?_⟩, ⟨Le.refl _, g1, g2, g3, by omega, fun k hk hn => ?_, fun k hk hn => ?_⟩, fun j hj => ?_, fun j => r.unfrozen hb hm hL j, hv.one h1⟩
  rotate_left 3
  · rw [H.get_set] at hc'
    split at hc'
    · simp only [Option.some.injEq] at hc'; subst hc'
      rcases hm with q | q <;> simp [Blk.isMap, q] at hm'
    · have x := r.maps c C N hc' hm' hN
      have hne : N.blk ≠ L.blk := fun q => x.no (by rw [q]; exact ho)
      exact x.keep (Le.refl _) (g5 _ hne)
  · rw [H.get_set] at hc' hd'
    split at hc'
    · simp only [Option.some.injEq] at hc'; subst hc'
      rcases hm with q | q <;> simp [Blk.isMap, q] at hm1
    · split at hd'
      · simp only [Option.some.injEq] at hd'; subst hd'
        rcases hm with q | q <;> simp [Blk.isMap, q] at hm2
      · exact r.lone c d C D N O hne hc' hd' hm1 hm2 hN hO
  rotate_left 3
  · rw [H.get_set]
    split
    · rename_i e; subst e; rw [← r.dom, hb]; rfl
    · exact r.dom c
  · rw [H.get_set] at hc'
    split at hc'
    · rename_i e
      subst e
      simp only [Option.some.injEq] at hc'
      subst hc'
      rw [hL] at hN
      simp only [Option.some.injEq] at hN
      subst hN
      refine ⟨⟨arr', elem, fz, k1, hf, by omega, fun i v hiv => ?_⟩, by simpa [over_length hle] using hfits, by simpa [over_length hle] using hex⟩
      rw [over_get hle] at hiv
      rw [k3]
      split at hiv
      · rename_i hin
        have hlt : L.off + i < arr.size := by omega
        rw [if_pos (by have := hv.1; omega)]
        obtain ⟨v', hv1, hv2⟩ := hv.get hiv
        exact ⟨v', by rw [show L.off + i - (L.off + o) = i - o by omega]; exact hv1, hv2⟩
      · rename_i hin
        rw [if_neg (by have := hv.1; omega)]
        exact hc i v hiv
    · rename_i hne
      obtain ⟨⟨arr2, elem2, fz2, ho2, hf2, hlim2, hc2⟩, hfits2, hex2⟩ := r.blk c C N hc' hl' hN
      refine ⟨?_, hfits2, hex2⟩
      by_cases hk : N.blk = L.blk
      · have hap := r.apart c b C B N L hne hc' hb hl' hm hN hL
        rw [hk] at ho2
        rw [ho] at ho2
        simp only [Option.some.injEq, Obj.cells.injEq] at ho2
        obtain ⟨rfl, rfl, rfl⟩ := ho2
        refine ⟨arr', elem, fz, hk ▸ k1, hf2, by omega, fun i v hiv => ?_⟩
        have hi : i < C.cells.length := (List.getElem?_eq_some_iff.1 hiv).1
        rw [k3, if_neg (by have := hv.1; omega)]
        exact hc2 i v hiv
      · exact ⟨arr2, elem2, fz2, by rw [g5 _ hk]; exact ho2, hf2, hlim2, hc2⟩
  · rw [H.get_set] at hc' hd'
    have : ∀ {x X}, (if x = b then some (⟨over B.cells o vs, B.kind⟩ : Blk) else h.get x) = some X → ∃ Y, h.get x = some Y ∧ Y.kind = X.kind := by
      intro x X hx
      split at hx
      · rename_i e; subst e; simp only [Option.some.injEq] at hx; subst hx; exact ⟨B, hb, rfl⟩
      · exact ⟨X, hx, rfl⟩
    obtain ⟨Y, hY, hYk⟩ := this hc'
    obtain ⟨Z, hZ, hZk⟩ := this hd'
    exact r.apart c d Y Z N O hne hY hZ (by simpa [Blk.live, hYk] using hl') (by simpa [Blk.mine, hZk] using hm') hN hO
  · exact g5 k fun e => hn ⟨b, B, L, hb, .inl hm, hL, e.symm⟩
  · obtain ⟨c, C, N, hc', hm', hN, hk'⟩ := hn
    rw [H.get_set] at hc'
    split at hc'
    · rename_i e; subst e; exact ⟨c, B, N, hb, .inl hm, hN, hk'⟩
    · exact ⟨c, C, N, hc', hm', hN, hk'⟩
  · have : (B.cells[o + j]?).isSome = true := by
      rw [List.getElem?_eq_getElem (by have := hv.1; omega)]; rfl
    obtain ⟨v, hv'⟩ := Option.isSome_iff_exists.1 this
    obtain ⟨v', hv1, _⟩ := r.cell hb hm.live hL hv'
    rw [← Nat.add_assoc] at hv1
    simp [hv1]

/-- A map with one block more. -/
def Map.add (ρ : Map) (n : Nat) (L : Loc) : Map := fun b => if b = n then some L else ρ b
theorem Map.add_same (ρ : Map) (n : Nat) (L : Loc) : ρ.add n L n = some L := by simp [Map.add]
theorem Map.add_le {ρ : Map} {n : Nat} (L : Loc) (hn : ρ n = none) : Le ρ (ρ.add n L) := fun b N hb => by
  unfold Map.add; split
  · rename_i e; subst e; rw [hn] at hb; cases hb
  · exact hb

theorem R.fresh (r : R G ρ h w) {n : Nat} (hn : h.get n = none) : ρ n = none := by
  have := r.dom n
  rw [hn] at this
  cases hρ : ρ n with
  | none => rfl
  | some L => rw [hρ] at this; cases this

/-- A block more, over a world in which all live blocks are as they were. -/
theorem R.add (r : R G ρ h w) {n : Nat} (hn : h.get n = none) {B : Blk} {L : Loc} (hB : BlkOK (ρ.add n L) w L B) (hk : B.mine)
    (hap : ∀ b C N, h.get b = some C → C.live → ρ b = some N → N.blk ≠ L.blk) : R G (ρ.add n L) (h.set n B) w := by
  have hle := Map.add_le L (r.fresh hn)
  have hnm : ¬ B.isMap := fun q => by rcases hk with e | e <;> (have := q.1; rw [e] at this; cases this)
  refine ⟨fun c => ?_, fun g hg => ?_, fun c C N hc hl hN => ?_, fun c d C D N O hne hc hd hl hm hN hO => ?_, fun c C N hc hm hN => ?_, fun c d C D N O hne hc hd hm1 hm2 hN hO => ?_⟩
  rotate_left 4
  · rw [H.get_set] at hc
    unfold Map.add at hN
    split at hc
    · simp only [Option.some.injEq] at hc; subst hc; exact absurd hm hnm
    · rename_i e
      rw [if_neg e] at hN
      exact (r.maps c C N hc hm hN).keep hle rfl
  · rw [H.get_set] at hc hd
    unfold Map.add at hN hO
    split at hc
    · simp only [Option.some.injEq] at hc; subst hc; exact absurd hm1 hnm
    · rename_i e
      rw [if_neg e] at hN
      split at hd
      · simp only [Option.some.injEq] at hd; subst hd; exact absurd hm2 hnm
      · rename_i e2
        rw [if_neg e2] at hO
        exact r.lone c d C D N O hne hc hd hm1 hm2 hN hO
  · rw [H.get_set]
    unfold Map.add
    split
    · rfl
    · exact r.dom c
  · obtain ⟨lim, hl⟩ := r.glob g hg
    exact ⟨lim, hle _ _ hl⟩
  · rw [H.get_set] at hc
    unfold Map.add at hN
    split at hc
    · rename_i e; subst e; simp only [if_true, Option.some.injEq] at hc hN; subst hc hN; exact hB
    · rename_i e
      rw [if_neg e] at hN
      obtain ⟨⟨arr, elem, fz, h1, h2, h3, h4⟩, h5, h6⟩ := r.blk c C N hc hl hN
      exact ⟨⟨arr, elem, fz, h1, h2, h3, fun i v hv => let ⟨v', k1, k2⟩ := h4 i v hv; ⟨v', k1, k2.mono hle⟩⟩, h5, h6⟩
  · rw [H.get_set] at hc hd
    unfold Map.add at hN hO
    by_cases hcn : c = n
    · subst hcn
      simp only [if_true, Option.some.injEq] at hc hN
      subst hc hN
      rw [if_neg (Ne.symm hne)] at hd hO
      exact Ne.symm (hap d D O hd hm.live hO)
    · rw [if_neg hcn] at hc hN
      by_cases hdn : d = n
      · subst hdn
        simp only [if_true, Option.some.injEq] at hd hO
        subst hd hO
        exact hap c C N hc hl hN
      · rw [if_neg hdn] at hd hO
        exact r.apart c d C D N O hne hc hd hl hm hN hO

/-- A new block of the world: all that was is as it was. -/
theorem R.alloc (r : R G ρ h w) (o : Obj) : R G ρ h (w.alloc o) := by
  refine ⟨r.dom, r.glob, fun b B L hb hl hL => ?_, r.apart, fun b B L hb hm hL => ?_, r.lone⟩
  rotate_left
  · have x := r.maps b B L hb hm hL
    exact x.keep (Le.refl _) (Go.RowKit.Below.heap_alloc _ _ _ x.lt)
  obtain ⟨⟨arr, elem, fz, h1, h2, h3, h4⟩, h5, h6⟩ := r.blk b B L hb hl hL
  have hlt : L.blk < w.heap.size := (Array.getElem?_eq_some_iff.1 h1).1
  exact ⟨⟨arr, elem, fz, by rw [Go.RowKit.Below.heap_alloc _ _ _ hlt]; exact h1, h2, h3, h4⟩, h5, h6⟩

theorem R.blk_lt (r : R G ρ h w) {b : Nat} {B : Blk} {L : Loc} (hb : h.get b = some B) (hl : B.live) (hL : ρ b = some L) : L.blk < w.heap.size := by
  obtain ⟨arr, elem, fz, h1, _⟩ := (r.blk b B L hb hl hL).obj
  exact (Array.getElem?_eq_some_iff.1 h1).1

/-- A new block, just as long as it is, or with room behind it. -/
theorem R.new (r : R G ρ h w) {cs : List Value} {k : Kind} {n n' b : Nat} {h' : H} (e : new cs k n h = some (b, n', h')) (hk : k = .own ∨ k = .grow)
    {cs' rest : List Value} (hv : VL ρ cs cs') (hrest : k = .own → rest = []) (elem : TypeId) :
    b = n ∧ R G (ρ.add n ⟨w.heap.size, 0, cs'.length + rest.length⟩) h' (w.alloc (.cells (cs' ++ rest).toArray elem)) ∧
      Ext ρ h w (ρ.add n ⟨w.heap.size, 0, cs'.length + rest.length⟩) h' (w.alloc (.cells (cs' ++ rest).toArray elem)) ∧ (∀ v ∈ cs', v.oneCell' = true) := by
  obtain ⟨rfl, rfl, hn, rfl, h1⟩ := new_some e
  have hle := Map.add_le ⟨w.heap.size, 0, cs'.length + rest.length⟩ (r.fresh hn)
  refine ⟨rfl, R.add (r.alloc _) hn ⟨⟨(cs' ++ rest).toArray, elem, (0, 0), heap_alloc_new w _, fun _ => rfl, by simp, fun i v hiv => ?_⟩, ?_, fun ho => ?_⟩ hk fun b C N hb hl hN => ?_, ⟨hle, rfl, rfl, rfl, by simp, fun k hk _ => Go.RowKit.Below.heap_alloc _ _ _ hk, fun k hk ho => ?_⟩, hv.one h1⟩
  · obtain ⟨v', g1, g2⟩ := hv.get hiv
    refine ⟨v', ?_, g2.mono hle⟩
    have : i < cs'.length := (List.getElem?_eq_some_iff.1 g1).1
    simp [List.getElem?_append_left this, g1]
  · have := hv.1; simp; omega
  · have := hv.1
    simp [hrest ho, hv.1]
  · have := r.blk_lt hb hl hN
    simp; omega
  · obtain ⟨c, C, N, hc, hm, hN, hk'⟩ := ho
    rw [H.get_set] at hc
    unfold Map.add at hN
    split at hc
    · rename_i e
      rw [if_pos e] at hN
      simp only [Option.some.injEq] at hN
      subst hN
      simp at hk'
      omega
    · rename_i e
      rw [if_neg e] at hN
      exact ⟨c, C, N, hc, hm, hN, hk'⟩
end
end Go.Fw
end
section
namespace Go.Fw

/-! ## Operands -/

def look : List (Nat × Value) → Nat → Value
  | [], _ => undef
  | (k, v) :: r, t => if t = k then v else look r t

/-- A constant without an address. -/
def okC0 : Value → Bool
  | .bool _ => true
  | .int _ _ => true
  | .string _ => true
  | .pointer none => true
  | .slice none 0 0 => true
  | .nilFunc => true
  | .nilIface => true
  | .map none => true
  | _ => false
def okC : Value → Bool
  | .agg cs => cs.toList.all okC0
  | v => okC0 v

def ev (G : Nat) (Γ : List (Nat × Value)) : Operand → Value
  | .tmp t => look Γ t
  | .const v => if okC v then v else undef
  | .global g => if g < G then .pointer (some ⟨g, 0, none⟩) else undef
  | .func f => .func (.func f) #[] #[]

/-! ## Operations on values -/

def opPick (c a b : Value) : M Value :=
  match c with
  | .bool true => ret a
  | .bool false => ret b
  | _ => fail
def opPtr (cs : List Value) : M Value := bnd (new cs .own) fun b => ret (.pointer (some ⟨b, 0, none⟩))
def opBoxN (v : Value) : M Value :=
  match v with
  | .agg cs => opPtr cs.toList
  | _ => fail
def opLoad (x : Value) : M Value :=
  match x with
  | .pointer (some ⟨b, o, none⟩) => rd b o
  | _ => fail
def opLoadN (k : Nat) (x : Value) : M Value :=
  match x with
  | .pointer (some ⟨b, o, none⟩) => bnd (rdN b o k) fun cs => ret (.agg cs.toArray)
  | _ => fail
def opStore (x v : Value) : M Value :=
  match x with
  | .pointer (some ⟨b, o, none⟩) => bnd (wr1 b o v) fun _ => ret undef
  | _ => fail
def opStoreN (k : Nat) (x v : Value) : M Value :=
  match x, v with
  | .pointer (some ⟨b, o, none⟩), .agg cs => if cs.size = k then bnd (wrN b o cs.toList) fun _ => ret undef else fail
  | _, _ => fail
def opNil (x : Value) : M Value :=
  match x with
  | .pointer (some a) => ret (.pointer (some a))
  | .func (.func f) fi cs => ret (.func (.func f) fi cs)
  | .iface t v => ret (.iface t v)
  | _ => fail

def fillA : List Value → List (Nat × Nat × Bool × Value) → Option (List Value)
  | cs, [] => some cs
  | cs, (off, size, false, v) :: r => if one v && size == 1 && decide (off < cs.length) then fillA (cs.set off v) r else none
  | cs, (off, size, true, v) :: r =>
    match v with
    | .agg xs => if decide (xs.size = size) && decide (off + size ≤ cs.length) then fillA (over cs off xs.toList) r else none
    | _ => none

def opBuild (z : List Value) (ps : List (Nat × Nat × Bool × Value)) : M Value :=
  match fillA z ps with
  | some cs => ret (.agg cs.toArray)
  | none => fail
def opBuildSlice (n : Nat) (z : List Value) (ps : List (Nat × Nat × Bool × Value)) : M Value :=
  match fillA z ps with
  | some cs => bnd (new cs .own) fun b => ret (.slice (some ⟨b, 0, none⟩) n n)
  | none => fail

def rep (n : Nat) (z : List Value) : List Value := (List.replicate n z).flatten

def opMake (bytes : Nat) (z : List Value) (l c : Value) : M Value :=
  match l, c with
  | .int _ l, .int _ c =>
    if 0 ≤ l ∧ l ≤ c ∧ c ≤ 1099511627776 ∧ bytes * c.toNat ≤ 70368744177664 then bnd (new (rep c.toNat z) .own) fun b => ret (.slice (some ⟨b, 0, none⟩) l.toNat c.toNat)
    else fail
  | _, _ => fail

def opFieldAddr (off : Nat) (x : Value) : M Value :=
  match x with
  | .pointer (some ⟨b, o, none⟩) => ret (.pointer (some ⟨b, o + off, none⟩))
  | _ => fail
def opField (off : Nat) (x : Value) : M Value :=
  match x with
  | .agg cs => match cs.toList[off]? with
    | some v => ret v
    | none => fail
  | _ => fail
def opFieldN (off size : Nat) (x : Value) : M Value :=
  match x with
  | .agg cs => if off + size ≤ cs.toList.length then ret (.agg ((cs.toList.drop off).take size).toArray) else fail
  | _ => fail
def opIndexAddr (size : Nat) (x i : Value) : M Value :=
  match x, i with
  | .slice (some ⟨b, o, none⟩) len _, .int _ i => if 0 ≤ i ∧ i < (len : Int) then ret (.pointer (some ⟨b, o + i.toNat * size, none⟩)) else fail
  | _, _ => fail
def opIndexAddrA (n size : Nat) (x i : Value) : M Value :=
  match x, i with
  | .pointer (some ⟨b, o, none⟩), .int _ i => if 0 ≤ i ∧ i < (n : Int) then ret (.pointer (some ⟨b, o + i.toNat * size, none⟩)) else fail
  | _, _ => fail
def opIndexA (n : Nat) (x i : Value) : M Value :=
  match x, i with
  | .agg cs, .int _ i => if 0 ≤ i ∧ i < (n : Int) then (match cs.toList[i.toNat]? with
    | some v => ret v
    | none => fail) else fail
  | _, _ => fail
def opIndexS (x i : Value) : M Value :=
  match x, i with
  | .string s, .int _ i => if 0 ≤ i then (match s[i.toNat]? with
    | some b => ret (.int .u8 b.toNat)
    | none => fail) else fail
  | _, _ => fail
def isNF : Value → Bool
  | .nilFunc => true
  | _ => false
def opExtract (x : Value) (i : Nat) : M Value :=
  match x with
  | .tuple vs => match vs.toList[i]? with
    | some v => if vs.size == 1 && isNF v then fail else ret v
    | none => fail
  | _ => fail

def bin (op : BinOp) (x y : Value) : Option Value :=
  match x, y with
  | .int k a, .int k' b =>
    match op with
    | .shl => if b < 0 then none else some (.int k (k.wrap (a * 2 ^ (min b.toNat k.bits))))
    | .shr => if b < 0 then none else some (.int k (a.fdiv (2 ^ (min b.toNat k.bits))))
    | .add => if k = k' then some (.int k (k.wrap (a + b))) else none
    | .sub => if k = k' then some (.int k (k.wrap (a - b))) else none
    | .mul => if k = k' then some (.int k (k.wrap (a * b))) else none
    | .quo => if k = k' then if b = 0 then none else some (.int k (k.wrap (a.tdiv b))) else none
    | .rem => if k = k' then if b = 0 then none else some (.int k (a.tmod b)) else none
    | .and => if k = k' then some (.int k (k.wrap (BitVec.ofInt k.bits a &&& BitVec.ofInt k.bits b).toNat)) else none
    | .or => if k = k' then some (.int k (k.wrap (BitVec.ofInt k.bits a ||| BitVec.ofInt k.bits b).toNat)) else none
    | .xor => if k = k' then some (.int k (k.wrap (BitVec.ofInt k.bits a ^^^ BitVec.ofInt k.bits b).toNat)) else none
    | .andNot => if k = k' then some (.int k (k.wrap (BitVec.ofInt k.bits a &&& ~~~BitVec.ofInt k.bits b).toNat)) else none
    | .eql => if k = k' then some (.bool (a == b)) else none
    | .neq => if k = k' then some (.bool (a != b)) else none
    | .lss => if k = k' then some (.bool (decide (a < b))) else none
    | .leq => if k = k' then some (.bool (decide (a ≤ b))) else none
    | .gtr => if k = k' then some (.bool (decide (a > b))) else none
    | .geq => if k = k' then some (.bool (decide (a ≥ b))) else none
  | _, _ => none
def opBin (op : BinOp) (x y : Value) : M Value :=
  match bin op x y with
  | some v => ret v
  | none => fail

/-- '==' of bools; of pointers, slices, functions: against nil. -/
def eqB (x y : Value) : Option Bool :=
  match x, y with
  | .bool a, .bool b => some (a == b)
  | _, _ => none
def eqP (x y : Value) : Option Bool :=
  match x, y with
  | .pointer none, .pointer none => some true
  | .pointer none, .pointer (some _) => some false
  | .pointer (some _), .pointer none => some false
  | _, _ => none
def eqSl (x y : Value) : Option Bool :=
  match x, y with
  | .slice none _ _, .slice none _ _ => some true
  | .slice none _ _, .slice (some _) _ _ => some false
  | .slice (some _) _ _, .slice none _ _ => some false
  | _, _ => none
def opEq (f : Value → Value → Option Bool) (neg : Bool) (x y : Value) : M Value :=
  match f x y with
  | some b => ret (.bool (xor neg b))
  | none => fail

def opNot (x : Value) : M Value :=
  match x with
  | .bool b => ret (.bool (!b))
  | _ => fail
def opNeg (x : Value) : M Value :=
  match x with
  | .int k n => ret (.int k (k.wrap (0 - n)))
  | _ => fail
def opCom (x : Value) : M Value :=
  match x with
  | .int k n => ret (.int k (k.wrap (BitVec.ofInt k.bits (if k.signed then -1 else k.max) ^^^ BitVec.ofInt k.bits n).toNat))
  | _ => fail
def opConv (k : IntKind) (x : Value) : M Value :=
  match x with
  | .int _ n => ret (.int k (k.wrap n))
  | _ => fail

/-- A slice's bound. -/
def bound (x : Value) : Option Int :=
  match x with
  | .int _ n => some n
  | _ => none
def opSlice (size : Nat) (x : Value) (lo hi mx : Option Value) : M Value :=
  match x with
  | .slice a len cap =>
    match lo.elim (some 0) bound, hi.elim (some (len : Int)) bound, mx.elim (some (-1 : Int)) bound with
    | some l, some h, some m =>
      if 0 ≤ l ∧ l ≤ h then
        match mx with
        | none =>
          if h ≤ (len : Int) then
            (if cap = U + size then (match a with
              | some ⟨b, o, none⟩ => ret (.slice (some ⟨b, o + l.toNat * size, none⟩) (h - l).toNat cap)
              | _ => fail)
            else if cap < U then (match a with
              | some ⟨b, o, none⟩ => ret (.slice (some ⟨b, o + l.toNat * size, none⟩) (h - l).toNat (cap - l.toNat))
              | none => ret (.slice none 0 0)
              | _ => fail)
            else fail)
          else fail
        | some _ =>
          if hi.isSome ∧ h ≤ m ∧ m ≤ (len : Int) ∧ m ≤ 1099511627776 then
            (match a with
              | some ⟨b, o, none⟩ => if cap = U + size ∨ cap < U then ret (.slice (some ⟨b, o + l.toNat * size, none⟩) (h - l).toNat (m - l).toNat) else fail
              | none => ret (.slice none 0 0)
              | _ => fail)
          else fail
      else fail
    | _, _, _ => fail
  | _ => fail

def opLen (x : Value) : M Value :=
  match x with
  | .slice _ n _ => ret (.int .i64 n)
  | _ => fail
def opLenS (x : Value) : M Value :=
  match x with
  | .string s => ret (.int .i64 s.size)
  | _ => fail

def max2 (x y : Value) : Option Value :=
  match x, y with
  | .int k a, .int _ b => some (.int k (if b > a then b else a))
  | _, _ => none
def min2 (x y : Value) : Option Value :=
  match x, y with
  | .int k a, .int _ b => some (.int k (if b < a then b else a))
  | _, _ => none
def foldO (f : Value → Value → Option Value) : Value → List Value → Option Value
  | x, [] => some x
  | x, y :: r => match f x y with
    | some z => foldO f z r
    | none => none
def opMax (xs : List Value) : M Value :=
  match xs with
  | x :: r => (match foldO max2 x r with
    | some v => ret v
    | none => fail)
  | [] => fail
def opMin (xs : List Value) : M Value :=
  match xs with
  | x :: r => (match foldO min2 x r with
    | some v => ret v
    | none => fail)
  | [] => fail

/-- What is read of a slice: all its cells. -/
def cellsOf (size : Nat) (x : Value) : M (List Value) :=
  match x with
  | .slice none 0 _ => ret []
  | .slice (some ⟨b, o, none⟩) n _ => if n = 0 then ret [] else rdN b o (n * size)
  | _ => fail

def opAppend (size bytes : Nat) (s x : Value) : M Value :=
  match s, x with
  | .slice a len cap, .slice _ n _ =>
    if n = 0 then (match a with
      | none => if len = 0 ∧ cap = 0 then ret (.slice none 0 0) else fail
      | some ⟨b, o, none⟩ => if cap = U + size ∨ cap < U then ret (.slice (some ⟨b, o, none⟩) len cap) else fail
      | _ => fail)
    else if len + n ≤ 1099511627776 ∧ (len + n) * bytes ≤ 70368744177664 then
      bnd (cellsOf size x) fun news =>
      if cap = U + size then
        (match a with
        | some ⟨b, _, _⟩ => bnd (cellsOf size s) fun olds => bnd (kill b) fun _ => bnd (new (olds ++ news) .grow) fun c => ret (.slice (some ⟨c, 0, none⟩) (len + n) (U + size))
        | none => fail)
      else if cap < len + n then bnd (cellsOf size s) fun olds => bnd (new (olds ++ news) .grow) fun c => ret (.slice (some ⟨c, 0, none⟩) (len + n) (U + size))
      else if cap < U then
        (match a with
        | some ⟨b, o, none⟩ => bnd (wrN b (o + len * size) news) fun _ => ret (.slice (some ⟨b, o, none⟩) (len + n) cap)
        | _ => fail)
      else fail
    else fail
  | _, _ => fail

/-- So many zeros behind a nil slice. -/
def opAppZ (size bytes : Nat) (z : List Value) (s x : Value) : M Value :=
  match s, x with
  | .slice none 0 0, .int .i64 n =>
    if 0 < n ∧ n ≤ 1099511627776 ∧ n.toNat * bytes ≤ 70368744177664 then bnd (new (rep n.toNat z) .grow) fun b => ret (.slice (some ⟨b, 0, none⟩) n.toNat (U + size)) else fail
  | _, _ => fail

/-- Is there room in the block's own cells? -/
def roomy (size : Nat) (s x : Value) : M Bool :=
  match s, x with
  | .slice (some ⟨b, o, none⟩) len cap, .slice _ n _ => if cap = U + size ∧ n ≠ 0 then room b (o + (len + n) * size) else ret false
  | _, _ => ret false
def opAppIn (size bytes : Nat) (s x : Value) : M Value :=
  match s, x with
  | .slice (some ⟨b, o, none⟩) len cap, .slice _ n _ =>
    if len + n ≤ 1099511627776 ∧ (len + n) * bytes ≤ 70368744177664 then
      bnd (cellsOf size x) fun news => bnd (wrN b (o + len * size) news) fun _ => ret (.slice (some ⟨b, o, none⟩) (len + n) cap)
    else fail
  | _, _ => fail
def opApp (size bytes : Nat) (s x : Value) : M Value := bnd (roomy size s x) fun q => if q then opAppIn size bytes s x else opAppend size bytes s x

/-- A slice of which both ends are given: it may reach behind the end, as far as the block's own cells go. -/
def opSlc (size : Nat) (x l h : Value) : M Value :=
  match x with
  | .slice (some ⟨b, o, none⟩) len cap =>
    (match bound l, bound h with
    | some i, some j => if (len : Int) < j ∧ cap = U + size then
        (if 0 ≤ i ∧ i ≤ j ∧ size ≠ 0 then bnd (room b (o + j.toNat * size)) fun q => if q then ret (.slice (some ⟨b, o + i.toNat * size, none⟩) (j - i).toNat cap) else fail else fail)
      else opSlice size x (some l) (some h) none
    | _, _ => fail)
  | _ => opSlice size x (some l) (some h) none

def opCap (x : Value) : M Value :=
  match x with
  | .slice _ _ c => if c < U then ret (.int .i64 c) else fail
  | _ => fail

def opFunc (fn : Fn) (cs : List Value) : M Value :=
  if cs.all one then ret (.func fn #[] cs.toArray) else fail

def opCall (E : FuncId → Option (List Value → M Value)) (f : Value) (args : List Value) : M Value :=
  match f with
  | .func (.func g) _ cs => match E g with
    | some m => m (args ++ cs.toList)
    | none => fail
  | _ => fail

/-! ## An operation of the program -/

def aggT (P : Program) (t : TypeId) : Bool :=
  match P.underlying t with
  | some (.struct _) => true
  | some (.array _ _) => true
  | _ => false

def zeroL (P : Program) (t : TypeId) : Option (List Value) :=
  match P.info? t with
  | some i => match i.zero with
    | some z => if z.cells.toList.all okC0 && decide (z.cells.toList.length = i.size) then some z.cells.toList else none
    | none => none
  | none => none

def placeF (P : Program) (fs : Array Field) (i : Nat) : Option (Nat × Nat × Bool) :=
  match fs[i]? with
  | some f => match P.info? f.type with
    | some inf => some (f.offset, inf.size, aggT P f.type)
    | none => none
  | none => none
def placed (pl : Nat → Option (Nat × Nat × Bool)) : List (Nat × Value) → Option (List (Nat × Nat × Bool × Value))
  | [] => some []
  | (i, v) :: r => match pl i, placed pl r with
    | some (off, size, ag), some ps => some ((off, size, ag, v) :: ps)
    | _, _ => none

/-! ### Maps -/

def keq1 : Value → Value → Bool
  | .int .i64 a, .int .i64 b => decide (a = b)
  | _, _ => false
def keqL : List Value → List Value → Bool
  | [], [] => true
  | a :: r, b :: s => keq1 a b && keqL r s
  | _, _ => false
def keq : Value → Value → Bool
  | .agg a, .agg b => keqL a.toList b.toList
  | a, b => keq1 a b
def entFind (key : Value) : List Value → Option (Value × Value)
  | k :: v :: t :: r => if keq key k = true then some (v, t) else entFind key r
  | _ => none
def entPut (key v : Value) (c : Nat) : List Value → List Value
  | k :: u :: t :: r => if keq key k = true then k :: v :: t :: r else k :: u :: t :: entPut key v c r
  | _ => [key, v, .int .i64 c]
def entDel (key : Value) : List Value → List Value
  | k :: u :: t :: r => if keq key k = true then r else k :: u :: t :: entDel key r
  | l => l
def stampIs (s : Int) : Value → Bool
  | .int .i64 t => decide (t = s)
  | _ => false
def entSet (s : Int) (v : Value) : List Value → Option (List Value)
  | k :: u :: t :: r => if stampIs s t = true then some (k :: v :: t :: r) else (entSet s v r).map fun l => k :: u :: t :: l
  | _ => none

def opMakeMap (n : Nat) : M Value := bnd (new [.nilFunc, .int .u64 n, .int .u64 0] .dead) fun b => ret (.map (some b))
/-- The clock and the entries, if the keys are of that kind. -/
def mapEnts (n : Nat) (key : Value) (cs : List Value) : Option (Nat × List Value) :=
  match cs with
  | .int .u64 m :: .int .u64 (.ofNat c) :: es => if m = (n : Int) ∧ ikey n key = true then some (c, es) else none
  | _ => none
/-- The entries of a map that is looked into, and no more. -/
def lookEnts (n : Nat) (key : Value) (cs : List Value) : Option (List Value) :=
  match cs with
  | .int .i64 m :: es => if m = (n : Int) ∧ ikey n key = true then some es else none
  | _ => none
def opLookup (n : Nat) (z : Value) (ok : Bool) (m key : Value) : M Value :=
  match m with
  | .map (some b) => bnd (mpGet b) fun cs => match mapEnts n key cs with
    | some (_, es) => (match entFind key es with
      | some (v, _) => ret (if ok then .tuple #[v, .bool true] else v)
      | none => ret (if ok then .tuple #[z, .bool false] else z))
    | none => (match lookEnts n key cs with
      | some es => (match entFind key es with
        | some (v, _) => ret (if ok then .tuple #[v, .bool true] else v)
        | none => ret (if ok then .tuple #[z, .bool false] else z))
      | none => fail)
  | .map none => if ikey n key = true then ret (if ok then .tuple #[z, .bool false] else z) else fail
  | _ => fail
def opInsert (n : Nat) (m key v : Value) : M Value :=
  match m with
  | .map (some b) => bnd (mpGet b) fun cs => match mapEnts n key cs with
    | some (c, es) => if one v = true then (match entFind key es with
      | some _ => bnd (mpSet b (.int .u64 n :: .int .u64 c :: entPut key v c es)) fun _ => ret undef
      | none => bnd (mpSet b (.int .u64 n :: .int .u64 (c + 1 : Nat) :: entPut key v c es)) fun _ => ret undef) else fail
    | none => fail
  | _ => fail
def opDelete (n : Nat) (m key : Value) : M Value :=
  match m with
  | .map (some b) => bnd (mpGet b) fun cs => match mapEnts n key cs with
    | some (c, es) => bnd (mpSet b (.int .u64 n :: .int .u64 c :: entDel key es)) fun _ => ret undef
    | none => fail
  | .map none => if ikey n key = true then ret undef else fail
  | _ => fail
/-- An entry that is asked for to be written: it is made if it isn't there. -/
def opMapEntry (n : Nat) (z : Value) (m key : Value) : M Value :=
  match m with
  | .map (some b) => bnd (mpGet b) fun cs => match mapEnts n key cs with
    | some (c, es) => (match entFind key es with
      | some (v, t) => ret (.tuple #[v, t])
      | none => bnd (mpSet b (.int .u64 n :: .int .u64 (c + 1 : Nat) :: entPut key z c es)) fun _ => ret (.tuple #[z, .int .i64 c]))
    | none => fail
  | _ => fail
def opEntryStore (m stamp v : Value) : M Value :=
  match m, stamp with
  | .map (some b), .int .i64 s => bnd (mpGet b) fun cs => match cs with
    | .int .u64 n :: c :: es => (match entSet s v es with
      | some es' => if one v = true then bnd (mpSet b (.int .u64 n :: c :: es')) fun _ => ret undef else fail
      | none => fail)
    | _ => fail
  | _, _ => fail
/-! ### Walks over maps -/

def decE : List Value → Option (List (Value × Value × Nat))
  | [] => some []
  | k :: v :: .int .i64 (.ofNat t) :: r => (decE r).map fun l => (k, v, t) :: l
  | _ => none
def decS : List Value → Option (List Nat)
  | [] => some []
  | .int .u64 (.ofNat t) :: r => (decS r).map fun l => t :: l
  | _ => none
def opRange (m : Value) : M Value :=
  match m with
  | .map none => bnd (new [.nilFunc, .bool false] .dead) fun i => ret (.pointer (some ⟨i, 0, none⟩))
  | .map (some b) => bnd (mpGet b) fun cs => match cs with
    | .int .u64 _ :: .int .u64 (.ofNat c) :: _ => bnd (new [.nilFunc, .bool true, .int .u64 b, .int .u64 c, .int .u64 c] .dead) fun i => ret (.pointer (some ⟨i, 0, none⟩))
    | _ => fail
  | _ => fail
/-- At most one entry may be left: then nothing is drawn. -/
def opNext (it : Value) : M Value :=
  match it with
  | .pointer (some ⟨i, 0, none⟩) => bnd (mpGet i) fun cs => match cs with
    | [.bool false] => ret (.tuple #[.bool false])
    | .bool true :: .int .u64 (.ofNat m) :: .int .u64 (.ofNat since) :: .int .u64 (.ofNat last) :: sn => bnd (mpGet m) fun ms => match ms with
      | .int .u64 _ :: .int .u64 (.ofNat c) :: es => (match decE es, decS sn with
        | some E, some seen => if E.all (fun p => decide (p.2.2 < since)) && decide (since ≤ last) && decide (since = c) then (match E.filter (fun p => !seen.contains p.2.2) with
          | [] => ret (.tuple #[.bool false])
          | [(k, v, t)] => bnd (mpSet i (.bool true :: .int .u64 m :: .int .u64 since :: .int .u64 c :: (seen ++ [t]).map fun t : Nat => Value.int .u64 t)) fun _ => ret (.tuple #[.bool true, k, v])
          | _ => fail) else fail
        | _, _ => fail)
      | _ => fail
    | _ => fail
  | _ => fail

def opEntry (it : Value) : M Value :=
  match it with
  | .pointer (some ⟨i, 0, none⟩) => bnd (mpGet i) fun cs => match cs with
    | .bool true :: .int .u64 (.ofNat m) :: .int .u64 (.ofNat since) :: .int .u64 (.ofNat last) :: sn => bnd (mpGet m) fun ms => match ms with
      | .int .u64 _ :: .int .u64 (.ofNat c) :: es => (match decE es, decS sn with
        | some E, some seen => (match seen.getLast?, decide (since = c) && decide (last = c) && decide ((E.map (·.2.2)).Nodup) with
          | some t, true => (match E.find? (fun p => decide (p.2.2 = t)) with
            | some (k, v, _) => ret (.tuple #[k, v])
            | none => fail)
          | _, _ => fail)
        | _, _ => fail)
      | _ => fail
    | _ => fail
  | _ => fail

def opIface (t : TypeId) (v : Value) : M Value := if one v = true then ret (.iface t v) else fail
def opClear (z : List Value) (x : Value) : M Value :=
  match x with
  | .slice none _ _ => ret undef
  | .slice (some ⟨b, o, none⟩) k _ => if k = 0 then ret undef else bnd (wrN b o (rep k z)) fun _ => ret undef
  | _ => fail

/-- A type whose cells are numbers, all of them: how many. -/
def intsT (P : Program) : Nat → TypeId → Option Nat
  | 0, _ => none
  | d + 1, t =>
    match P.underlying t with
    | some (.int .i64) => if P.cellsOf t = 1 then some 1 else none
    | some (.struct fs) => if fs.toList.all (fun f => f.name != "_" && (match intsT P d f.type with
        | some k => decide (P.cellsOf f.type = k) && decide (f.offset + k ≤ P.cellsOf t)
        | none => false)) then some (P.cellsOf t) else none
    | _ => none
/-- A map's key type: of how many numbers. -/
def keyN (P : Program) (k : TypeId) : Option Nat :=
  match P.underlying k with
  | some (.int .i64) => some 0
  | some (.struct _) => if laidOutB P && decide (k < P.types.size) && decide (2 ≤ P.types.size) && P.keyTypeAt 3 k && P.keyType k && decide (0 < P.cellsOf k) then intsT P 3 k else none
  | _ => none
/-- A struct's type whose values may be held against one another: of how many numbers. -/
def eqN (P : Program) (t : TypeId) : Option Nat :=
  match P.underlying t with
  | some (.struct _) => if P.eqGuardType P.depth t then none else keyN P t
  | _ => none
def eqA (n : Nat) (x y : Value) : Option Bool := if ikey n x && ikey n y then some (keq x y) else none
/-- nil, as a value of an interface, against the literal nil. -/
def eqI (x y : Value) : Option Bool :=
  match x, y with
  | .nilIface, .nilIface => some true
  | .iface _ _, .nilIface => some false
  | _, _ => none
def isC : Operand → Bool
  | .const _ => true
  | _ => false

/-- A map's type: its keys, and an element's zero value. -/
def mapN (P : Program) (t : TypeId) : Option (Nat × Value) :=
  match P.underlying t with
  | some (.map k e) => (match keyN P k, (P.info? e).bind (·.zero) with
    | some n, some z => if okC0 z then some (n, z) else none
    | _, _ => none)
  | _ => none

abbrev Env := FuncId → Option (List Value → M Value)

def aop (P : Program) (G : Nat) (E : Env) (Γ : List (Nat × Value)) : Op → M Value
  | .move x => ret (ev G Γ x)
  | .assign x => ret (ev G Γ x)
  | .pick c a b => opPick (ev G Γ c) (ev G Γ a) (ev G Γ b)
  | .alloc t => match zeroL P t with
    | some z => opPtr z
    | none => fail
  | .box t x => if aggT P t then opBoxN (ev G Γ x) else opPtr [ev G Γ x]
  | .build t ps =>
    match P.underlying t, zeroL P t with
    | some (.struct fs), some z => if fs.toList.all (fun f => (P.info? f.type).isSome) then (match placed (placeF P fs) (ps.toList.map fun p => (p.1, ev G Γ p.2)) with
      | some l => opBuild z l
      | none => fail) else fail
    | some (.array _ e), some z => match P.info? e with
      | some inf => (match placed (fun i => some (i * inf.size, inf.size, aggT P e)) (ps.toList.map fun p => (p.1, ev G Γ p.2)) with
        | some l => opBuild z l
        | none => fail)
      | none => fail
    | _, _ => fail
  | .buildSlice t n ps =>
    match P.underlying t with
    | some (.slice e) => match P.info? e, zeroL P e with
      | some inf, some z => if n ≤ 16777216 ∧ n * inf.size ≤ 16777216 then (match placed (fun i => some (i * inf.size, inf.size, aggT P e)) (ps.toList.map fun p => (p.1, ev G Γ p.2)) with
        | some l => opBuildSlice n (rep n z) l
        | none => fail) else fail
      | _, _ => fail
    | _ => fail
  | .load t x => match P.underlying t, P.info? t with
    | some _, some i => if aggT P t then opLoadN i.size (ev G Γ x) else opLoad (ev G Γ x)
    | _, _ => fail
  | .store t x v => match P.info? t with
    | some i => if aggT P t then opStoreN i.size (ev G Γ x) (ev G Γ v) else if i.size = 1 then opStore (ev G Γ x) (ev G Γ v) else fail
    | none => fail
  | .nilCheck x => opNil (ev G Γ x)
  | .binOp op t x y _ =>
    match op with
    | .eql => (match P.underlying t with
      | some .bool => opEq eqB false (ev G Γ x) (ev G Γ y)
      | some (.pointer _) => opEq eqP false (ev G Γ x) (ev G Γ y)
      | some (.slice _) => opEq eqSl false (ev G Γ x) (ev G Γ y)
      | some (.struct _) => (match eqN P t with
        | some n => opEq (eqA n) false (ev G Γ x) (ev G Γ y)
        | none => fail)
      | some (.interface _) => if isC x || isC y then opEq eqI false (ev G Γ x) (ev G Γ y) else fail
      | _ => opBin .eql (ev G Γ x) (ev G Γ y))
    | .neq => (match P.underlying t with
      | some .bool => opEq eqB true (ev G Γ x) (ev G Γ y)
      | some (.pointer _) => opEq eqP true (ev G Γ x) (ev G Γ y)
      | some (.slice _) => opEq eqSl true (ev G Γ x) (ev G Γ y)
      | some (.struct _) => (match eqN P t with
        | some n => opEq (eqA n) true (ev G Γ x) (ev G Γ y)
        | none => fail)
      | some (.interface _) => if isC x || isC y then opEq eqI true (ev G Γ x) (ev G Γ y) else fail
      | _ => opBin .neq (ev G Γ x) (ev G Γ y))
    | op => opBin op (ev G Γ x) (ev G Γ y)
  | .unOp .not _ x => opNot (ev G Γ x)
  | .unOp .neg _ x => opNeg (ev G Γ x)
  | .unOp .xor _ x => opCom (ev G Γ x)
  | .convert s d x => match P.underlying s, P.underlying d with
    | some _, some (.int k) => opConv k (ev G Γ x)
    | _, _ => fail
  | .makeFunc fn first cs => if first.toList.isEmpty then opFunc fn (cs.toList.map (ev G Γ)) else fail
  | .makeSlice t l c => match P.underlying t with
    | some (.slice e) => match P.info? e, zeroL P e with
      | some i, some z => opMake i.bytes z (ev G Γ l) (ev G Γ c)
      | _, _ => fail
    | _ => fail
  | .slice t x lo hi mx => match P.underlying t with
    | some (.slice e) => match P.info? e with
      | some i => (match lo, hi, mx with
        | some lo, some hi, none => opSlc i.size (ev G Γ x) (ev G Γ lo) (ev G Γ hi)
        | _, _, _ => opSlice i.size (ev G Γ x) (lo.map (ev G Γ)) (hi.map (ev G Γ)) (mx.map (ev G Γ)))
      | none => fail
    | _ => fail
  | .fieldAddr t x f => match P.underlying t with
    | some (.struct fs) => match fs[f]? with
      | some fd => match P.info? fd.type with
        | some i => if i.size = 0 then fail else opFieldAddr fd.offset (ev G Γ x)
        | none => fail
      | none => fail
    | _ => fail
  | .field t x f => match P.underlying t with
    | some (.struct fs) => match fs[f]? with
      | some fd => match P.underlying fd.type, P.info? fd.type with
        | some _, some i => if aggT P fd.type then opFieldN fd.offset i.size (ev G Γ x) else opField fd.offset (ev G Γ x)
        | _, _ => fail
      | none => fail
    | _ => fail
  | .indexAddr t x i => match P.underlying t with
    | some (.slice e) => match P.info? e with
      | some inf => opIndexAddr inf.size (ev G Γ x) (ev G Γ i)
      | none => fail
    | some (.array n e) => match P.info? e with
      | some inf => opIndexAddrA n inf.size (ev G Γ x) (ev G Γ i)
      | none => fail
    | _ => fail
  | .index t x i => match P.underlying t with
    | some (.array n e) => match P.underlying e, P.info? e with
      | some _, some inf => if aggT P e then fail else if inf.size = 1 then opIndexA n (ev G Γ x) (ev G Γ i) else fail
      | _, _ => fail
    | some .string => opIndexS (ev G Γ x) (ev G Γ i)
    | _ => fail
  | .extract x i => opExtract (ev G Γ x) i
  | .call c => match c.callee with
    | .value f => opCall E (ev G Γ f) (c.args.toList.map (ev G Γ))
    | .builtin .len => match c.argTypes.toList, c.args.toList with
      | [t], [x] => (match P.underlying t with
        | some .string => opLenS (ev G Γ x)
        | some (.slice _) => opLen (ev G Γ x)
        | _ => fail)
      | _, _ => fail
    | .builtin .cap => match c.argTypes.toList, c.args.toList with
      | [t], [x] => (match P.underlying t with
        | some (.slice _) => opCap (ev G Γ x)
        | _ => fail)
      | _, _ => fail
    | .builtin .clear => match c.argTypes.toList, c.args.toList with
      | [t], [x] => (match P.underlying t with
        | some (.slice e) => (match zeroL P e with
          | some z => opClear z (ev G Γ x)
          | none => fail)
        | _ => fail)
      | _, _ => fail
    | .builtin .delete => match c.argTypes.toList, c.args.toList with
      | [t, _], [m, k] => (match mapN P t with
        | some (n, _) => opDelete n (ev G Γ m) (ev G Γ k)
        | none => fail)
      | _, _ => fail
    | .builtin .max => opMax (c.args.toList.map (ev G Γ))
    | .builtin .min => opMin (c.args.toList.map (ev G Γ))
    | .builtin .append => match c.argTypes.toList, c.args.toList with
      | [t, u], [s, x] => (match P.underlying t, P.underlying u with
        | some (.slice e), some (.slice _) => (match P.info? e, zeroL P e with
          | some i, some _ => if i.size = 0 then fail else opApp i.size i.bytes (ev G Γ s) (ev G Γ x)
          | _, _ => fail)
        | some (.slice e), some (.int _) => (match P.info? e, zeroL P e with
          | some i, some z => if i.size = 0 then fail else opAppZ i.size i.bytes z (ev G Γ s) (ev G Γ x)
          | _, _ => fail)
        | _, _ => fail)
      | _, _ => fail
    | _ => fail
  | .makeInterface t x => match P.underlying t with
    | some (.interface _) => fail
    | some _ => opIface t (ev G Γ x)
    | none => fail
  | .makeMap t none => match mapN P t with
    | some (n, _) => opMakeMap n
    | none => fail
  | .lookup t m k ok => match mapN P t with
    | some (n, z) => opLookup n z ok (ev G Γ m) (ev G Γ k)
    | none => fail
  | .insert t m k x => match mapN P t with
    | some (n, _) => opInsert n (ev G Γ m) (ev G Γ k) (ev G Γ x)
    | none => fail
  | .mapUpdate t m k x => match mapN P t with
    | some (n, _) => opInsert n (ev G Γ m) (ev G Γ k) (ev G Γ x)
    | none => fail
  | .mapEntry t m k => match mapN P t with
    | some (n, z) => opMapEntry n z (ev G Γ m) (ev G Γ k)
    | none => fail
  | .entryStore _ m s x => opEntryStore (ev G Γ m) (ev G Γ s) (ev G Γ x)
  | .range t x => (match P.underlying t with
    | some (.map _ _) => opRange (ev G Γ x)
    | _ => fail)
  | .next x false => opNext (ev G Γ x)
  | .entry x => opEntry (ev G Γ x)
  | _ => fail

end Go.Fw
end
section
namespace Go.Fw
open Go.RowKit (Below)

/-- The temporaries that are known. -/
structure Live (ρ : Map) (N : Nat) (Γ : List (Nat × Value)) (a : Act) : Prop where
  size : a.tmps.size = N
  at_ : ∀ t, VW ρ (look Γ t) (a.tmps.getD t undef)

theorem Live.mono {ρ ρ' : Map} (h : Le ρ ρ') {N : Nat} {Γ : List (Nat × Value)} {a : Act} (l : Live ρ N Γ a) : Live ρ' N Γ a := ⟨l.size, fun t => (l.at_ t).mono h⟩

theorem Live.put {ρ : Map} {N : Nat} {Γ : List (Nat × Value)} {a : Act} (l : Live ρ N Γ a) {d : Nat} (hd : d < N) {v v' : Value} (h : VW ρ v v') : Live ρ N ((d, v) :: Γ) (a.put (some d) v') := by
  refine ⟨by simp [Act.put, l.size], fun t => ?_⟩
  simp only [look, Act.put]
  by_cases e : t = d
  · subst e
    rw [if_pos rfl]
    have : t < a.tmps.size := by rw [l.size]; exact hd
    simp [this]
    exact h
  · rw [if_neg e]
    have := l.at_ t
    rw [Array.getD_eq_getD_getElem?] at this ⊢
    rw [Array.getElem?_setIfInBounds_ne (Ne.symm e)]
    exact this

theorem VR.of_okC0 {ρ : Map} {v : Value} (h : okC0 v = true) : VR ρ v v := by
  unfold okC0 at h
  split at h <;> first | exact .bool _ | exact .int _ _ | exact .string _ | exact .nilptr | exact .nilslice | exact .nilFunc | exact .nilIface | exact .nilmap | cases h

theorem VR.of_okC {ρ : Map} {v : Value} (h : okC v = true) : VR ρ v v := by
  cases v with
  | agg cs =>
    refine .agg cs cs rfl fun i v v' hv hv' => ?_
    rw [hv] at hv'
    cases hv'
    exact .of_okC0 (List.all_eq_true.1 h v (by
      have := Array.mem_of_getElem? hv
      exact Array.mem_toList_iff.2 this))
  | _ => exact .of_okC0 h

section
variable {P : Program} {G : Nat} {ρ : Map} {h : H} {w : World} {N : Nat} {Γ : List (Nat × Value)} {a : Act}

theorem ev_sim (r : R G ρ h w) (l : Live ρ N Γ a) (x : Operand) : VW ρ (ev G Γ x) (a.eval x) := by
  cases x with
  | tmp t => exact l.at_ t
  | const v =>
    simp only [ev, Act.eval]
    split
    · exact (VR.of_okC (by assumption)).weak
    · exact .inl (.inl rfl)
  | global g =>
    simp only [ev, Act.eval]
    split
    · rename_i hg
      obtain ⟨lim, hl⟩ := r.glob g hg
      have := VR.ptr (ρ := ρ) g 0 _ hl
      exact this.weak
    · exact .inl (.inl rfl)
  | func f => exact (VR.func _ _ _ rfl (by simp)).weak

/-! ### Looks into values that are alike -/

theorem VW.bool_inv {b : Bool} {v' : Value} (h : VW ρ (.bool b) v') : v' = .bool b := by
  rcases h with (h | ⟨h, _⟩) | h
  · cases h
  · cases h
  · cases h; rfl
theorem VW.int_inv {k : IntKind} {n : Int} {v' : Value} (h : VW ρ (.int k n) v') : v' = .int k n := by
  rcases h with (h | ⟨h, _⟩) | h
  · cases h
  · cases h
  · cases h; rfl
theorem VW.string_inv {s : ByteArray} {v' : Value} (h : VW ρ (.string s) v') : v' = .string s := by
  rcases h with (h | ⟨h, _⟩) | h
  · cases h
  · cases h
  · cases h; rfl
theorem VW.nilptr_inv {v' : Value} (h : VW ρ (.pointer none) v') : v' = .pointer none := by
  rcases h with (h | ⟨h, _⟩) | h
  · cases h
  · cases h
  · cases h; rfl
theorem VW.ptr_inv {x : Addr} {v' : Value} (h : VW ρ (.pointer (some x)) v') : ∃ b o L, x = ⟨b, o, none⟩ ∧ ρ b = some L ∧ v' = .pointer (some ⟨L.blk, L.off + o, none⟩) := by
  rcases h with (h | ⟨h, _⟩) | h
  · cases h
  · cases h
  · cases h with | ptr b o L hb => exact ⟨b, o, L, rfl, hb, rfl⟩
theorem VW.nilslice_inv {n c : Nat} {v' : Value} (h : VW ρ (.slice none n c) v') : n = 0 ∧ c = 0 ∧ v' = .slice none 0 0 := by
  rcases h with (h | ⟨h, _⟩) | h
  · cases h
  · cases h
  · cases h; exact ⟨rfl, rfl, rfl⟩
theorem VW.slice_inv {x : Addr} {n c : Nat} {v' : Value} (h : VW ρ (.slice (some x) n c) v') : ∃ b o L a' c', x = ⟨b, o, none⟩ ∧ ρ b = some L ∧ v' = .slice (some a') n c' ∧ SL L o n c a' c' := by
  rcases h with (h | ⟨h, _⟩) | h
  · cases h
  · cases h
  · cases h with | slice b o len cap a' cap' L hb hs => exact ⟨b, o, L, a', cap', rfl, hb, rfl, hs⟩
theorem VW.agg_inv {cs : Array Value} {v' : Value} (h : VW ρ (.agg cs) v') : ∃ cs', v' = .agg cs' ∧ VL ρ cs.toList cs'.toList := by
  rcases h with (h | ⟨h, _⟩) | h
  · cases h
  · cases h
  · cases h with | agg _ cs' hs hv => exact ⟨cs', rfl, by simpa using hs, fun i v v' a b => hv i v v' (by simpa using a) (by simpa using b)⟩
theorem VW.tuple_inv {cs : Array Value} {v' : Value} (h : VW ρ (.tuple cs) v') : cs = #[] ∨ cs = #[.nilFunc] ∨ ∃ cs', v' = .tuple cs' ∧ VL ρ cs.toList cs'.toList := by
  rcases h with (h | ⟨h, _⟩) | h
  · left; unfold undef at h; cases h; rfl
  · right; left; unfold skipV at h; cases h; rfl
  · right; right
    cases h with | tuple _ cs' hs hv => exact ⟨cs', rfl, by simpa using hs, fun i v v' a b => hv i v v' (by simpa using a) (by simpa using b)⟩
theorem VW.func_inv {fn : Fn} {fi cs : Array Value} {v' : Value} (h : VW ρ (.func fn fi cs) v') : fi = #[] ∧ ∃ cs', v' = .func fn #[] cs' ∧ VL ρ cs.toList cs'.toList := by
  rcases h with (h | ⟨h, _⟩) | h
  · cases h
  · cases h
  · cases h with | func _ _ cs' hs hv => exact ⟨rfl, cs', rfl, by simpa using hs, fun i v v' a b => hv i v v' (by simpa using a) (by simpa using b)⟩
theorem VW.iface_inv {t : TypeId} {v v' : Value} (h : VW ρ (.iface t v) v') : ∃ u, v' = .iface t u ∧ VR ρ v u := by
  rcases h with (h | ⟨h, _⟩) | h
  · cases h
  · cases h
  · cases h with | iface _ _ u hu => exact ⟨u, rfl, hu⟩

theorem VL.agg {cs cs' : List Value} (h : VL ρ cs cs') : VR ρ (.agg cs.toArray) (.agg cs'.toArray) :=
  .agg _ _ (by simpa using h.1) fun i v v' a b => h.2 i v v' (by simpa using a) (by simpa using b)

/-- Lists of values of which some may not be known. -/
def WL (ρ : Map) (vs vs' : List Value) : Prop := vs.length = vs'.length ∧ ∀ (i : Nat) v v', vs[i]? = some v → vs'[i]? = some v' → VW ρ v v'
theorem WL.strict {vs vs' : List Value} (h : WL ρ vs vs') (h1 : vs.all one = true) : VL ρ vs vs' :=
  ⟨h.1, fun i v v' a b => (h.2 i v v' a b).strict (List.all_eq_true.1 h1 v (List.mem_of_getElem? a))⟩
theorem WL.map (r : R G ρ h w) (l : Live ρ N Γ a) (xs : List Operand) : WL ρ (xs.map (ev G Γ)) (xs.map a.eval) := by
  refine ⟨by simp, fun i v v' hv hv' => ?_⟩
  simp only [List.getElem?_map] at hv hv'
  cases hx : xs[i]? with
  | none => simp [hx] at hv
  | some x => simp [hx] at hv hv'; subst hv hv'; exact ev_sim r l x
theorem WL.cons {v v' : Value} {vs vs' : List Value} (h : VW ρ v v') (hs : WL ρ vs vs') : WL ρ (v :: vs) (v' :: vs') := by
  refine ⟨by simp [hs.1], fun i u u' hu hu' => ?_⟩
  cases i with
  | zero => simp at hu hu'; subst hu hu'; exact h
  | succ i => exact hs.2 i u u' (by simpa using hu) (by simpa using hu')
theorem WL.nil : WL ρ [] [] := ⟨rfl, by simp⟩
theorem WL.head {v : Value} {vs vs' : List Value} (hs : WL ρ (v :: vs) vs') : ∃ u us, vs' = u :: us ∧ VW ρ v u ∧ WL ρ vs us := by
  cases vs' with
  | nil => have := hs.1; simp at this
  | cons u us => exact ⟨u, us, rfl, hs.2 0 v u rfl rfl, by simpa using hs.1, fun i x y hx hy => hs.2 (i + 1) x y (by simpa using hx) (by simpa using hy)⟩
theorem VL.weak {vs vs' : List Value} (h : VL ρ vs vs') : WL ρ vs vs' := ⟨h.1, fun i v v' a b => (h.2 i v v' a b).weak⟩
theorem WL.append {a a' b b' : List Value} (h : WL ρ a a') (k : WL ρ b b') : WL ρ (a ++ b) (a' ++ b') := by
  refine ⟨by simp [h.1, k.1], fun i v v' hv hv' => ?_⟩
  by_cases hi : i < a.length
  · rw [List.getElem?_append_left hi] at hv
    rw [List.getElem?_append_left (h.1 ▸ hi)] at hv'
    exact h.2 i v v' hv hv'
  · rw [List.getElem?_append_right (by omega)] at hv
    rw [List.getElem?_append_right (by have := h.1; omega), ← h.1] at hv'
    exact k.2 _ v v' hv hv'
theorem WL.mono {ρ' : Map} (h : Le ρ ρ') {vs vs' : List Value} (hs : WL ρ vs vs') : WL ρ' vs vs' := ⟨hs.1, fun i v v' a b => (hs.2 i v v' a b).mono h⟩

/-! ### What an operation's answer tells of its operands -/

theorem opLoad_some {x : Value} {n : Nat} {h : H} {z : Value × Nat × H} (e : opLoad x n h = some z) : ∃ b o, x = .pointer (some ⟨b, o, none⟩) ∧ rd b o n h = some z := by
  obtain ⟨m, hm⟩ : ∃ m, m = opLoad x := ⟨_, rfl⟩
  rw [← hm] at e
  unfold opLoad at hm
  split at hm
  · subst hm; exact ⟨_, _, rfl, e⟩
  · subst hm; cases e
theorem opLoadN_some {k : Nat} {x : Value} {n : Nat} {h : H} {z : Value × Nat × H} (e : opLoadN k x n h = some z) : ∃ b o, x = .pointer (some ⟨b, o, none⟩) ∧ bnd (rdN b o k) (fun cs => ret (.agg cs.toArray)) n h = some z := by
  obtain ⟨m, hm⟩ : ∃ m, m = opLoadN k x := ⟨_, rfl⟩
  rw [← hm] at e
  unfold opLoadN at hm
  split at hm
  · subst hm; exact ⟨_, _, rfl, e⟩
  · subst hm; cases e
theorem opStore_some {x v : Value} {n : Nat} {h : H} {z : Value × Nat × H} (e : opStore x v n h = some z) : ∃ b o, x = .pointer (some ⟨b, o, none⟩) ∧ bnd (wr1 b o v) (fun _ => ret undef) n h = some z := by
  obtain ⟨m, hm⟩ : ∃ m, m = opStore x v := ⟨_, rfl⟩
  rw [← hm] at e
  unfold opStore at hm
  split at hm
  · subst hm; exact ⟨_, _, rfl, e⟩
  · subst hm; cases e
theorem opStoreN_some {k : Nat} {x v : Value} {n : Nat} {h : H} {z : Value × Nat × H} (e : opStoreN k x v n h = some z) :
    ∃ b o cs, x = .pointer (some ⟨b, o, none⟩) ∧ v = .agg cs ∧ cs.size = k ∧ bnd (wrN b o cs.toList) (fun _ => ret undef) n h = some z := by
  obtain ⟨m, hm⟩ : ∃ m, m = opStoreN k x v := ⟨_, rfl⟩
  rw [← hm] at e
  unfold opStoreN at hm
  split at hm
  · split at hm
    · subst hm; exact ⟨_, _, _, rfl, rfl, by assumption, e⟩
    · subst hm; cases e
  · subst hm; cases e

/-! ### What an operation does -/

/-- The operation's run in the world: a value and a world, alike to what the abstract machine gave. -/
def Does (P : Program) (G : Nat) (o : Oper) (a : Act) (w : World) (ρ : Map) (h : H) (v : Value) (h' : H) : Prop :=
  ∃ v' ρ' w', ((execOp a.eval o).run P w = .ok (.value v') w' ∨ ((execOp a.eval o).run P w = .ok .skip w' ∧ v' = undef)) ∧ VW ρ' v v' ∧ R G ρ' h' w' ∧ Ext ρ h w ρ' h' w'

theorem Does.same {o : Oper} {v : Value} (r : R G ρ h w) {v' : Value} (hr : (execOp a.eval o).run P w = .ok (.value v') w) (hv : VW ρ v v') : Does P G o a w ρ h v h :=
  ⟨v', ρ, w, .inl hr, hv, r, Ext.refl _ _ _⟩

theorem ret_some {α : Type} {x v : α} {n n' : Nat} {h h' : H} (e : ret x n h = some (v, n', h')) : v = x ∧ n' = n ∧ h' = h := by
  simp only [ret, Option.some.injEq, Prod.mk.injEq] at e
  exact ⟨e.1.symm, e.2.1.symm, e.2.2.symm⟩
theorem cells_agg (cs : Array Value) : (Value.agg cs).cells = cs := rfl

/-- A new block of the call's own, and the pointer to it. -/
theorem sim_ptr (r : R G ρ h w) {cs cs' : List Value} (hv : WL ρ cs cs') {n n' : Nat} {h' : H} {v : Value} (e : opPtr cs n h = some (v, n', h')) (t : TypeId) :
    ∃ ρ' v', VR ρ' v v' ∧ R G ρ' h' (w.alloc (.cells cs'.toArray t)) ∧ Ext ρ h w ρ' h' (w.alloc (.cells cs'.toArray t)) ∧ v' = .pointer (some ⟨w.heap.size, 0, none⟩) := by
  obtain ⟨b, n1, h1, e1, e2⟩ := bnd_some e
  obtain ⟨rfl, rfl, rfl⟩ := ret_some e2
  have h1' : cs.all one = true := (new_some e1).2.2.2.2
  obtain ⟨rfl, hr, hx, _⟩ := r.new e1 (.inl rfl) (hv.strict h1') (rest := []) (fun _ => rfl) t
  simp only [List.append_nil] at hr hx
  exact ⟨_, _, .ptr _ 0 _ (Map.add_same _ _ _), hr, hx, rfl⟩

theorem run_loadVar_one {t : TypeId} {x : Addr} {u : Value} {d : TypeDesc} (hu : P.underlying t = some d) (ha : aggT P t = false) (hc : w.cell? x = some u) :
    (loadVar t x).run P w = .ok u w := by
  unfold aggT at ha
  rw [hu] at ha
  cases d <;> simp_all [loadVar, isAgg, run_underlying hu]

theorem run_loadVar_agg {t : TypeId} {x : Addr} {cs : List Value} {i : TypeInfo} (ha : aggT P t = true) (hi : P.info? t = some i) (hs : cs.length = i.size)
    (hc : ∀ j u, cs[j]? = some u → w.cell? (x.add j) = some u) : (loadVar t x).run P w = .ok (.agg cs.toArray) w := by
  unfold aggT at ha
  have hl := run_loadCells_list (P := P) w x cs hc
  rw [hs] at hl
  cases hu : P.underlying t with
  | none => simp [hu] at ha
  | some d =>
    rw [hu] at ha
    cases d <;> simp_all [loadVar, isAgg, run_underlying hu, sizeOf, typeInfo]

theorem addr_add (b o j : Nat) : (⟨b, o, none⟩ : Addr).add j = ⟨b, o + j, none⟩ := by unfold Addr.add; split <;> simp_all

theorem sim_load (r : R G ρ h w) (l : Live ρ N Γ a) {o : Oper} {t : TypeId} {x : Operand} (ho : o.op = .load t x) {E : Env} {n n' : Nat} {h' : H} {v : Value}
    (e : aop P G E Γ o.op n h = some (v, n', h')) : Does P G o a w ρ h v h' := by
  rw [ho] at e
  simp only [aop] at e
  have hx := ev_sim r l x
  cases hu : P.underlying t with
  | none => simp only [hu] at e; cases e
  | some d =>
  cases hi : P.info? t with
  | none => simp only [hu, hi] at e; cases e
  | some i =>
    simp only [hu, hi] at e
    by_cases hag : aggT P t = true
    · simp only [hag, if_true] at e
      obtain ⟨b, o', hb, e⟩ := opLoadN_some e
      rw [hb] at hx
      obtain ⟨_, _, L, hxe, hL, hv'⟩ := hx.ptr_inv
      cases hxe
      obtain ⟨cs, n1, h1, e1, e2⟩ := bnd_some e
      obtain ⟨rfl, rfl, rfl⟩ := ret_some e2
      obtain ⟨rfl, rfl, hk, L', hL', vs', hvs, hc⟩ := r.rdN e1
      rw [hL] at hL'
      cases hL'
      refine Does.same r (v' := .agg vs'.toArray) ?_ hvs.agg.weak
      have := run_loadVar_agg (P := P) (w := w) (x := ⟨L.blk, L.off + o', none⟩) (cs := vs') hag hi (by rw [← hvs.1]; exact hk) (fun j u hj => by rw [addr_add]; exact hc j u hj)
      simp [execOp, ho, Instr.loadAt, Instr.sureAddr, hv', this]
    · simp only [hag, if_false, Bool.false_eq_true] at e
      obtain ⟨b, o', hb, e⟩ := opLoad_some e
      rw [hb] at hx
      obtain ⟨_, _, L, hxe, hL, hv'⟩ := hx.ptr_inv
      cases hxe
      obtain ⟨rfl, rfl, L', hL', v', hvr, hc⟩ := r.rd e
      rw [hL] at hL'
      cases hL'
      refine Does.same r (v' := v') ?_ hvr.weak
      have := run_loadVar_one (P := P) (t := t) hu (by simpa using hag) hc
      simp [execOp, ho, Instr.loadAt, Instr.sureAddr, hv', this]

theorem run_storeVar_any {t : TypeId} {b o : Nat} {v : Value} {i : TypeInfo} (hi : P.info? t = some i) (hs : v.cells.size = i.size)
    (hc : ∀ j, j < v.cells.toList.length → (w.cell? ⟨b, o + j, none⟩).isSome = true) (hf : ∀ j, w.frozen? ⟨b, j, none⟩ = false) (h1 : ∀ u ∈ v.cells.toList, u.oneCell' = true) :
    (storeVar t ⟨b, o, none⟩ v).run P w = .ok () (w.setCells b o v.cells.toList) := by
  have := run_storeCells_cells (P := P) b o v.cells.toList 0 w (by simpa using hc) (fun j _ => hf _) h1
  simp only [Nat.add_zero] at this
  simp [storeVar, sizeOf, typeInfo, hi, hs, this]

theorem sim_store (r : R G ρ h w) (l : Live ρ N Γ a) {o : Oper} {t : TypeId} {x y : Operand} (ho : o.op = .store t x y) {E : Env} {n n' : Nat} {h' : H} {v : Value}
    (e : aop P G E Γ o.op n h = some (v, n', h')) : Does P G o a w ρ h v h' := by
  rw [ho] at e
  simp only [aop] at e
  have hx := ev_sim r l x
  have hy := ev_sim r l y
  cases hi : P.info? t with
  | none => simp only [hi] at e; cases e
  | some i =>
    simp only [hi] at e
    split at e
    · obtain ⟨b, o', cs, hb, hcs, hsz, e⟩ := opStoreN_some e
      rw [hb] at hx
      rw [hcs] at hy
      obtain ⟨_, _, L, hxe, hL, hv'⟩ := hx.ptr_inv
      cases hxe
      obtain ⟨cs', hy', hvl⟩ := hy.agg_inv
      obtain ⟨u, n1, h1, e1, e2⟩ := bnd_some e
      obtain ⟨rfl, rfl, rfl⟩ := ret_some e2
      obtain ⟨rfl, L', hL', hr, hex, hc, hf, h1'⟩ := r.wrN e1 hvl
      rw [hL] at hL'
      cases hL'
      refine ⟨undef, ρ, _, .inr ⟨?_, rfl⟩, .inl (.inl rfl), hr, hex⟩
      have := run_storeVar_any (P := P) (t := t) (b := L.blk) (o := L.off + o') (v := .agg cs') hi (by have := hvl.1; simp at this; rw [cells_agg, ← this]; exact hsz) hc hf h1'
      simp [execOp, ho, Instr.storeAt, Instr.sureAddr, hv', hy', this, cells_agg]
    · split at e
      · rename_i hsz
        obtain ⟨b, o', hb, e⟩ := opStore_some e
        rw [hb] at hx
        obtain ⟨_, _, L, hxe, hL, hv'⟩ := hx.ptr_inv
        cases hxe
        obtain ⟨u, n1, h1, e1, e2⟩ := bnd_some e
        obtain ⟨rfl, rfl, rfl⟩ := ret_some e2
        have e1' := wr1_some e1
        have hone : one (ev G Γ y) = true := by
          have := (wrN_some e1').2
          obtain ⟨_, _, _, _, _, h⟩ := this
          simpa using h
        have hyr := hy.strict hone
        obtain ⟨rfl, L', hL', hr, hex, hc, hf, h1'⟩ := r.wrN e1' (VL.cons hyr (VL.nil ρ))
        rw [hL] at hL'
        cases hL'
        refine ⟨undef, ρ, _, .inr ⟨?_, rfl⟩, .inl (.inl rfl), hr, hex⟩
        have hcy : (a.eval y).cells = #[a.eval y] := cells_of_one (by rw [hyr.one]; exact hone)
        have := run_storeVar_any (P := P) (t := t) (b := L.blk) (o := L.off + o') (v := a.eval y) hi (by rw [hcy]; simpa using hsz.symm) (by rw [hcy]; exact hc) hf (by rw [hcy]; exact h1')
        rw [hcy] at this
        simp [execOp, ho, Instr.storeAt, Instr.sureAddr, hv', this]
      · cases e
end
end Go.Fw
end
section
namespace Go.Fw

theorem opPick_some {c a b : Value} {n : Nat} {h : H} {v : Value} {n' : Nat} {h' : H} (e : opPick c a b n h = some (v, n', h')) : n' = n ∧ h' = h ∧ ((c = .bool true ∧ v = a) ∨ (c = .bool false ∧ v = b)) := by
  obtain ⟨m, hm⟩ : ∃ m, m = opPick c a b := ⟨_, rfl⟩
  rw [← hm] at e
  unfold opPick at hm
  split at hm
  · subst hm; obtain ⟨rfl, rfl, rfl⟩ := ret_some e; exact ⟨rfl, rfl, .inl ⟨rfl, rfl⟩⟩
  · subst hm; obtain ⟨rfl, rfl, rfl⟩ := ret_some e; exact ⟨rfl, rfl, .inr ⟨rfl, rfl⟩⟩
  · subst hm; cases e
theorem opBoxN_some {v : Value} {n : Nat} {h : H} {z : Value × Nat × H} (e : opBoxN v n h = some z) : ∃ cs, v = .agg cs ∧ opPtr cs.toList n h = some z := by
  obtain ⟨m, hm⟩ : ∃ m, m = opBoxN v := ⟨_, rfl⟩
  rw [← hm] at e
  unfold opBoxN at hm
  split at hm
  · subst hm; exact ⟨_, rfl, e⟩
  · subst hm; cases e
theorem opNil_some {x : Value} {n : Nat} {h : H} {v : Value} {n' : Nat} {h' : H} (e : opNil x n h = some (v, n', h')) :
    n' = n ∧ h' = h ∧ v = x ∧ ((∃ a, x = .pointer (some a)) ∨ (∃ f fi cs, x = .func (.func f) fi cs) ∨ ∃ t u, x = .iface t u) := by
  obtain ⟨m, hm⟩ : ∃ m, m = opNil x := ⟨_, rfl⟩
  rw [← hm] at e
  unfold opNil at hm
  split at hm
  · subst hm; obtain ⟨rfl, rfl, rfl⟩ := ret_some e; exact ⟨rfl, rfl, rfl, .inl ⟨_, rfl⟩⟩
  · subst hm; obtain ⟨rfl, rfl, rfl⟩ := ret_some e; exact ⟨rfl, rfl, rfl, .inr (.inl ⟨_, _, _, rfl⟩)⟩
  · subst hm; obtain ⟨rfl, rfl, rfl⟩ := ret_some e; exact ⟨rfl, rfl, rfl, .inr (.inr ⟨_, _, rfl⟩)⟩
  · subst hm; cases e
theorem opFieldAddr_some {off : Nat} {x : Value} {n : Nat} {h : H} {v : Value} {n' : Nat} {h' : H} (e : opFieldAddr off x n h = some (v, n', h')) :
    n' = n ∧ h' = h ∧ ∃ b o, x = .pointer (some ⟨b, o, none⟩) ∧ v = .pointer (some ⟨b, o + off, none⟩) := by
  obtain ⟨m, hm⟩ : ∃ m, m = opFieldAddr off x := ⟨_, rfl⟩
  rw [← hm] at e
  unfold opFieldAddr at hm
  split at hm
  · subst hm; obtain ⟨rfl, rfl, rfl⟩ := ret_some e; exact ⟨rfl, rfl, _, _, rfl, rfl⟩
  · subst hm; cases e
theorem opField_some {off : Nat} {x : Value} {n : Nat} {h : H} {v : Value} {n' : Nat} {h' : H} (e : opField off x n h = some (v, n', h')) :
    n' = n ∧ h' = h ∧ ∃ cs, x = .agg cs ∧ cs.toList[off]? = some v := by
  obtain ⟨m, hm⟩ : ∃ m, m = opField off x := ⟨_, rfl⟩
  rw [← hm] at e
  unfold opField at hm
  split at hm
  · split at hm
    · subst hm; obtain ⟨rfl, rfl, rfl⟩ := ret_some e; exact ⟨rfl, rfl, _, rfl, by assumption⟩
    · subst hm; cases e
  · subst hm; cases e
theorem opFieldN_some {off size : Nat} {x : Value} {n : Nat} {h : H} {v : Value} {n' : Nat} {h' : H} (e : opFieldN off size x n h = some (v, n', h')) :
    n' = n ∧ h' = h ∧ ∃ cs, x = .agg cs ∧ off + size ≤ cs.toList.length ∧ v = .agg ((cs.toList.drop off).take size).toArray := by
  obtain ⟨m, hm⟩ : ∃ m, m = opFieldN off size x := ⟨_, rfl⟩
  rw [← hm] at e
  unfold opFieldN at hm
  split at hm
  · split at hm
    · subst hm; obtain ⟨rfl, rfl, rfl⟩ := ret_some e; exact ⟨rfl, rfl, _, rfl, by assumption, rfl⟩
    · subst hm; cases e
  · subst hm; cases e
theorem opIndexAddr_some {size : Nat} {x i : Value} {n : Nat} {h : H} {v : Value} {n' : Nat} {h' : H} (e : opIndexAddr size x i n h = some (v, n', h')) :
    n' = n ∧ h' = h ∧ ∃ b o len cap k j, x = .slice (some ⟨b, o, none⟩) len cap ∧ i = .int k j ∧ 0 ≤ j ∧ j < (len : Int) ∧ v = .pointer (some ⟨b, o + j.toNat * size, none⟩) := by
  obtain ⟨m, hm⟩ : ∃ m, m = opIndexAddr size x i := ⟨_, rfl⟩
  rw [← hm] at e
  unfold opIndexAddr at hm
  split at hm
  · split at hm
    · rename_i hj; subst hm; obtain ⟨rfl, rfl, rfl⟩ := ret_some e; exact ⟨rfl, rfl, _, _, _, _, _, _, rfl, rfl, hj.1, hj.2, rfl⟩
    · subst hm; cases e
  · subst hm; cases e
theorem opIndexAddrA_some {l size : Nat} {x i : Value} {n : Nat} {h : H} {v : Value} {n' : Nat} {h' : H} (e : opIndexAddrA l size x i n h = some (v, n', h')) :
    n' = n ∧ h' = h ∧ ∃ b o k j, x = .pointer (some ⟨b, o, none⟩) ∧ i = .int k j ∧ 0 ≤ j ∧ j < (l : Int) ∧ v = .pointer (some ⟨b, o + j.toNat * size, none⟩) := by
  obtain ⟨m, hm⟩ : ∃ m, m = opIndexAddrA l size x i := ⟨_, rfl⟩
  rw [← hm] at e
  unfold opIndexAddrA at hm
  split at hm
  · split at hm
    · rename_i hj; subst hm; obtain ⟨rfl, rfl, rfl⟩ := ret_some e; exact ⟨rfl, rfl, _, _, _, _, rfl, rfl, hj.1, hj.2, rfl⟩
    · subst hm; cases e
  · subst hm; cases e
theorem opIndexA_some {l : Nat} {x i : Value} {n : Nat} {h : H} {v : Value} {n' : Nat} {h' : H} (e : opIndexA l x i n h = some (v, n', h')) :
    n' = n ∧ h' = h ∧ ∃ cs k j, x = .agg cs ∧ i = .int k j ∧ 0 ≤ j ∧ j < (l : Int) ∧ cs.toList[j.toNat]? = some v := by
  obtain ⟨m, hm⟩ : ∃ m, m = opIndexA l x i := ⟨_, rfl⟩
  rw [← hm] at e
  unfold opIndexA at hm
  split at hm
  · split at hm
    · rename_i hj
      split at hm
      · subst hm; obtain ⟨rfl, rfl, rfl⟩ := ret_some e; exact ⟨rfl, rfl, _, _, _, rfl, rfl, hj.1, hj.2, by assumption⟩
      · subst hm; cases e
    · subst hm; cases e
  · subst hm; cases e
theorem opIndexS_some {x i : Value} {n : Nat} {h : H} {v : Value} {n' : Nat} {h' : H} (e : opIndexS x i n h = some (v, n', h')) :
    n' = n ∧ h' = h ∧ ∃ (s : ByteArray) (k : IntKind) (j : Int) (b : UInt8), x = .string s ∧ i = .int k j ∧ 0 ≤ j ∧ s[j.toNat]? = some b ∧ v = .int .u8 b.toNat := by
  obtain ⟨m, hm⟩ : ∃ m, m = opIndexS x i := ⟨_, rfl⟩
  rw [← hm] at e
  unfold opIndexS at hm
  split at hm
  · split at hm
    · rename_i hj
      split at hm
      · subst hm; obtain ⟨rfl, rfl, rfl⟩ := ret_some e; exact ⟨rfl, rfl, _, _, _, _, rfl, rfl, hj, by assumption, rfl⟩
      · subst hm; cases e
    · subst hm; cases e
  · subst hm; cases e
theorem opExtract_some {x : Value} {i : Nat} {n : Nat} {h : H} {v : Value} {n' : Nat} {h' : H} (e : opExtract x i n h = some (v, n', h')) :
    n' = n ∧ h' = h ∧ ∃ vs, x = .tuple vs ∧ vs.toList[i]? = some v ∧ ¬ (vs.size = 1 ∧ isNF v = true) := by
  obtain ⟨m, hm⟩ : ∃ m, m = opExtract x i := ⟨_, rfl⟩
  rw [← hm] at e
  unfold opExtract at hm
  split at hm
  · split at hm
    · split at hm
      · subst hm; cases e
      · rename_i h1; subst hm; obtain ⟨rfl, rfl, rfl⟩ := ret_some e; exact ⟨rfl, rfl, _, rfl, by assumption, by simpa using h1⟩
    · subst hm; cases e
  · subst hm; cases e
theorem opBin_some {op : BinOp} {x y : Value} {n : Nat} {h : H} {v : Value} {n' : Nat} {h' : H} (e : opBin op x y n h = some (v, n', h')) : n' = n ∧ h' = h ∧ bin op x y = some v := by
  unfold opBin at e
  cases hb : bin op x y with
  | none => rw [hb] at e; cases e
  | some u => rw [hb] at e; obtain ⟨rfl, rfl, rfl⟩ := ret_some e; exact ⟨rfl, rfl, rfl⟩
theorem opEq_some {f : Value → Value → Option Bool} {neg : Bool} {x y : Value} {n : Nat} {h : H} {v : Value} {n' : Nat} {h' : H} (e : opEq f neg x y n h = some (v, n', h')) :
    n' = n ∧ h' = h ∧ ∃ b, f x y = some b ∧ v = .bool (xor neg b) := by
  unfold opEq at e
  cases hb : f x y with
  | none => rw [hb] at e; cases e
  | some u => rw [hb] at e; obtain ⟨rfl, rfl, rfl⟩ := ret_some e; exact ⟨rfl, rfl, _, rfl, rfl⟩
theorem opNot_some {x : Value} {n : Nat} {h : H} {v : Value} {n' : Nat} {h' : H} (e : opNot x n h = some (v, n', h')) : n' = n ∧ h' = h ∧ ∃ b, x = .bool b ∧ v = .bool (!b) := by
  obtain ⟨m, hm⟩ : ∃ m, m = opNot x := ⟨_, rfl⟩
  rw [← hm] at e
  unfold opNot at hm
  split at hm
  · subst hm; obtain ⟨rfl, rfl, rfl⟩ := ret_some e; exact ⟨rfl, rfl, _, rfl, rfl⟩
  · subst hm; cases e
theorem opNeg_some {x : Value} {n : Nat} {h : H} {v : Value} {n' : Nat} {h' : H} (e : opNeg x n h = some (v, n', h')) : n' = n ∧ h' = h ∧ ∃ k z, x = .int k z ∧ v = .int k (k.wrap (0 - z)) := by
  obtain ⟨m, hm⟩ : ∃ m, m = opNeg x := ⟨_, rfl⟩
  rw [← hm] at e
  unfold opNeg at hm
  split at hm
  · subst hm; obtain ⟨rfl, rfl, rfl⟩ := ret_some e; exact ⟨rfl, rfl, _, _, rfl, rfl⟩
  · subst hm; cases e
theorem opCom_some {x : Value} {n : Nat} {h : H} {v : Value} {n' : Nat} {h' : H} (e : opCom x n h = some (v, n', h')) :
    n' = n ∧ h' = h ∧ ∃ k z, x = .int k z ∧ v = .int k (k.wrap (BitVec.ofInt k.bits (if k.signed then -1 else k.max) ^^^ BitVec.ofInt k.bits z).toNat) := by
  obtain ⟨m, hm⟩ : ∃ m, m = opCom x := ⟨_, rfl⟩
  rw [← hm] at e
  unfold opCom at hm
  split at hm
  · subst hm; obtain ⟨rfl, rfl, rfl⟩ := ret_some e; exact ⟨rfl, rfl, _, _, rfl, rfl⟩
  · subst hm; cases e
theorem opConv_some {k : IntKind} {x : Value} {n : Nat} {h : H} {v : Value} {n' : Nat} {h' : H} (e : opConv k x n h = some (v, n', h')) : n' = n ∧ h' = h ∧ ∃ j z, x = .int j z ∧ v = .int k (k.wrap z) := by
  obtain ⟨m, hm⟩ : ∃ m, m = opConv k x := ⟨_, rfl⟩
  rw [← hm] at e
  unfold opConv at hm
  split at hm
  · subst hm; obtain ⟨rfl, rfl, rfl⟩ := ret_some e; exact ⟨rfl, rfl, _, _, rfl, rfl⟩
  · subst hm; cases e
theorem opLen_some {x : Value} {n : Nat} {h : H} {v : Value} {n' : Nat} {h' : H} (e : opLen x n h = some (v, n', h')) : n' = n ∧ h' = h ∧ ∃ a l c, x = .slice a l c ∧ v = .int .i64 l := by
  obtain ⟨m, hm⟩ : ∃ m, m = opLen x := ⟨_, rfl⟩
  rw [← hm] at e
  unfold opLen at hm
  split at hm
  · subst hm; obtain ⟨rfl, rfl, rfl⟩ := ret_some e; exact ⟨rfl, rfl, _, _, _, rfl, rfl⟩
  · subst hm; cases e
theorem opLenS_some {x : Value} {n : Nat} {h : H} {v : Value} {n' : Nat} {h' : H} (e : opLenS x n h = some (v, n', h')) : n' = n ∧ h' = h ∧ ∃ s : ByteArray, x = .string s ∧ v = .int .i64 s.size := by
  obtain ⟨m, hm⟩ : ∃ m, m = opLenS x := ⟨_, rfl⟩
  rw [← hm] at e
  unfold opLenS at hm
  split at hm
  · subst hm; obtain ⟨rfl, rfl, rfl⟩ := ret_some e; exact ⟨rfl, rfl, _, rfl, rfl⟩
  · subst hm; cases e
theorem opMax_some {xs : List Value} {n : Nat} {h : H} {v : Value} {n' : Nat} {h' : H} (e : opMax xs n h = some (v, n', h')) : n' = n ∧ h' = h ∧ ∃ x r, xs = x :: r ∧ foldO max2 x r = some v := by
  cases xs with
  | nil => cases e
  | cons x r =>
    unfold opMax at e
    cases hb : foldO max2 x r with
    | none => simp only [hb] at e; cases e
    | some u => simp only [hb] at e; obtain ⟨rfl, rfl, rfl⟩ := ret_some e; exact ⟨rfl, rfl, _, _, rfl, hb⟩
theorem opMin_some {xs : List Value} {n : Nat} {h : H} {v : Value} {n' : Nat} {h' : H} (e : opMin xs n h = some (v, n', h')) : n' = n ∧ h' = h ∧ ∃ x r, xs = x :: r ∧ foldO min2 x r = some v := by
  cases xs with
  | nil => cases e
  | cons x r =>
    unfold opMin at e
    cases hb : foldO min2 x r with
    | none => simp only [hb] at e; cases e
    | some u => simp only [hb] at e; obtain ⟨rfl, rfl, rfl⟩ := ret_some e; exact ⟨rfl, rfl, _, _, rfl, hb⟩
theorem opFunc_some {fn : Fn} {cs : List Value} {n : Nat} {h : H} {v : Value} {n' : Nat} {h' : H} (e : opFunc fn cs n h = some (v, n', h')) : n' = n ∧ h' = h ∧ cs.all one = true ∧ v = .func fn #[] cs.toArray := by
  unfold opFunc at e
  by_cases h1 : cs.all one = true
  · simp only [h1, if_true] at e; obtain ⟨rfl, rfl, rfl⟩ := ret_some e; exact ⟨rfl, rfl, h1, rfl⟩
  · simp only [h1, if_false] at e; cases e

section
variable {P : Program} {G : Nat} {ρ : Map} {h : H} {w : World} {N : Nat} {Γ : List (Nat × Value)} {a : Act} {E : Env} {n n' : Nat} {h' : H} {v : Value} {o : Oper}

theorem sim_move (r : R G ρ h w) (l : Live ρ N Γ a) {x : Operand} (ho : o.op = .move x) (e : aop P G E Γ o.op n h = some (v, n', h')) : Does P G o a w ρ h v h' := by
  rw [ho] at e
  obtain ⟨rfl, rfl, rfl⟩ := ret_some e
  exact .same r (v' := a.eval x) (by simp [execOp, ho]) (ev_sim r l x)
theorem sim_assign (r : R G ρ h w) (l : Live ρ N Γ a) {x : Operand} (ho : o.op = .assign x) (e : aop P G E Γ o.op n h = some (v, n', h')) : Does P G o a w ρ h v h' := by
  rw [ho] at e
  obtain ⟨rfl, rfl, rfl⟩ := ret_some e
  exact .same r (v' := a.eval x) (by simp [execOp, ho]) (ev_sim r l x)
theorem sim_pick (r : R G ρ h w) (l : Live ρ N Γ a) {c x y : Operand} (ho : o.op = .pick c x y) (e : aop P G E Γ o.op n h = some (v, n', h')) : Does P G o a w ρ h v h' := by
  rw [ho] at e
  obtain ⟨rfl, rfl, hc⟩ := opPick_some e
  have hcv := ev_sim r l c
  rcases hc with ⟨hc, rfl⟩ | ⟨hc, rfl⟩
  · rw [hc] at hcv
    exact .same r (v' := a.eval x) (by simp [execOp, ho, hcv.bool_inv, asBool]) (ev_sim r l x)
  · rw [hc] at hcv
    exact .same r (v' := a.eval y) (by simp [execOp, ho, hcv.bool_inv, asBool]) (ev_sim r l y)

theorem zeroL_some {t : TypeId} {z : List Value} (hz : zeroL P t = some z) : ∃ i u, P.info? t = some i ∧ i.zero = some u ∧ u.cells.toList = z ∧ z.length = i.size ∧ VL ρ z z ∧ z.all one = true := by
  unfold zeroL at hz
  split at hz
  · rename_i i hi
    split at hz
    · rename_i u hu
      split at hz
      · rename_i hc
        simp only [Option.some.injEq] at hz
        subst hz
        simp only [Bool.and_eq_true, decide_eq_true_eq] at hc
        refine ⟨i, u, hi, hu, rfl, hc.2, ⟨rfl, fun j x y hx hy => ?_⟩, ?_⟩
        · rw [hx] at hy; cases hy
          exact .of_okC0 (List.all_eq_true.1 hc.1 x (List.mem_of_getElem? hx))
        · rw [List.all_eq_true]
          intro x hx
          have := List.all_eq_true.1 hc.1 x hx
          revert this
          unfold okC0 one
          cases x <;> simp
      · cases hz
    · cases hz
  · cases hz

theorem sim_alloc (r : R G ρ h w) {t : TypeId} (ho : o.op = .alloc t) (e : aop P G E Γ o.op n h = some (v, n', h')) : Does P G o a w ρ h v h' := by
  rw [ho] at e
  simp only [aop] at e
  cases hz : zeroL P t with
  | none => simp only [hz] at e; cases e
  | some z =>
    simp only [hz] at e
    obtain ⟨i, u, hi, hu, hc, _, hv, _⟩ := zeroL_some (ρ := ρ) hz
    obtain ⟨ρ', v', h1, h2, h3, rfl⟩ := sim_ptr r hv.weak e t
    refine ⟨_, ρ', _, .inl ?_, h1.weak, h2, h3⟩
    have hcc : u.cells = z.toArray := by rw [← hc]
    simp [execOp, ho, Instr.alloc, zeroValue, typeInfo, hi, hu, newVar, newRow, hcc]

theorem sim_box (r : R G ρ h w) (l : Live ρ N Γ a) {t : TypeId} {x : Operand} (ho : o.op = .box t x) (e : aop P G E Γ o.op n h = some (v, n', h')) : Does P G o a w ρ h v h' := by
  rw [ho] at e
  simp only [aop] at e
  have hx := ev_sim r l x
  by_cases hag : aggT P t = true
  · simp only [hag, if_true] at e
    obtain ⟨cs, hcs, e⟩ := opBoxN_some e
    rw [hcs] at hx
    obtain ⟨cs', hx', hv⟩ := hx.agg_inv
    obtain ⟨ρ', v', h1, h2, h3, rfl⟩ := sim_ptr r hv.weak e t
    refine ⟨_, ρ', _, .inl ?_, h1.weak, h2, h3⟩
    simp [execOp, ho, Instr.box, newVar, newRow, hx', cells_agg]
  · simp only [hag, if_false, Bool.false_eq_true] at e
    have h1 : one (ev G Γ x) = true := by
      obtain ⟨b, n1, h1, e1, e2⟩ := bnd_some e
      simpa using (new_some e1).2.2.2.2
    have hxr := hx.strict h1
    obtain ⟨ρ', v', g1, g2, g3, rfl⟩ := sim_ptr r (VL.cons hxr (VL.nil ρ)).weak e t
    refine ⟨_, ρ', _, .inl ?_, g1.weak, g2, g3⟩
    have hcy : (a.eval x).cells = #[a.eval x] := cells_of_one (by rw [hxr.one]; exact h1)
    simp [execOp, ho, Instr.box, newVar, newRow, hcy]

theorem sim_nilCheck (r : R G ρ h w) (l : Live ρ N Γ a) {x : Operand} (ho : o.op = .nilCheck x) (e : aop P G E Γ o.op n h = some (v, n', h')) : Does P G o a w ρ h v h' := by
  rw [ho] at e
  obtain ⟨rfl, rfl, rfl, hk⟩ := opNil_some e
  have hx := ev_sim r l x
  refine .same r (v' := a.eval x) ?_ hx
  rcases hk with ⟨p, hp⟩ | ⟨f, fi, cs, hp⟩ | ⟨t, u, hp⟩
  · rw [hp] at hx
    obtain ⟨b, o', L, _, _, hv'⟩ := hx.ptr_inv
    simp [execOp, ho, hv']
  · rw [hp] at hx
    obtain ⟨_, cs', hv', _⟩ := hx.func_inv
    simp [execOp, ho, hv']
  · rw [hp] at hx
    obtain ⟨u', hv', _⟩ := hx.iface_inv
    simp [execOp, ho, hv']

theorem sim_fieldAddr (r : R G ρ h w) (l : Live ρ N Γ a) {t : TypeId} {x : Operand} {f : Nat} (ho : o.op = .fieldAddr t x f) (e : aop P G E Γ o.op n h = some (v, n', h')) : Does P G o a w ρ h v h' := by
  rw [ho] at e
  simp only [aop] at e
  have hx := ev_sim r l x
  cases hu : P.underlying t with
  | none => simp only [hu] at e; cases e
  | some d =>
  cases d <;> simp only [hu] at e <;> try (cases e; done)
  rename_i fs
  cases hf : fs[f]? with
  | none => simp only [hf] at e; cases e
  | some fd =>
  cases hi : P.info? fd.type with
  | none => simp only [hf, hi] at e; cases e
  | some i =>
    simp only [hf, hi] at e
    by_cases h0 : i.size = 0
    · simp only [h0, if_true] at e; cases e
    · simp only [h0, if_false] at e
      obtain ⟨rfl, rfl, b, o', hp, rfl⟩ := opFieldAddr_some e
      rw [hp] at hx
      obtain ⟨_, _, L, hxe, hL, hv'⟩ := hx.ptr_inv
      cases hxe
      refine .same r (v' := .pointer (some ⟨L.blk, L.off + (o' + fd.offset), none⟩)) ?_ (VR.ptr _ _ _ hL).weak
      simp [execOp, ho, Instr.fieldAt, run_underlying hu, hf, Instr.sureAddr, hv', fieldPlace, sizeOf, typeInfo, hi, h0, addr_add, Nat.add_assoc]

theorem sim_field (r : R G ρ h w) (l : Live ρ N Γ a) {t : TypeId} {x : Operand} {f : Nat} (ho : o.op = .field t x f) (e : aop P G E Γ o.op n h = some (v, n', h')) : Does P G o a w ρ h v h' := by
  rw [ho] at e
  simp only [aop] at e
  have hx := ev_sim r l x
  cases hu : P.underlying t with
  | none => simp only [hu] at e; cases e
  | some d =>
  cases d <;> simp only [hu] at e <;> try (cases e; done)
  rename_i fs
  cases hf : fs[f]? with
  | none => simp only [hf] at e; cases e
  | some fd =>
  cases hd : P.underlying fd.type with
  | none => simp only [hf, hd] at e; cases e
  | some d' =>
  cases hi : P.info? fd.type with
  | none => simp only [hf, hd, hi] at e; cases e
  | some i =>
    simp only [hf, hd, hi] at e
    by_cases hag : aggT P fd.type = true
    · simp only [hag, if_true] at e
      obtain ⟨rfl, rfl, cs, hp, hle, rfl⟩ := opFieldN_some e
      rw [hp] at hx
      obtain ⟨cs', hx', hv⟩ := hx.agg_inv
      refine .same r (v' := .agg (cs'.extract fd.offset (fd.offset + i.size))) ?_ ?_
      · unfold aggT at hag
        rw [hd] at hag
        cases d' <;> simp at hag <;> simp [execOp, ho, Instr.field, run_underlying hu, hf, asAgg, hx', part, isAgg, run_underlying hd, sizeOf, typeInfo, hi]
      · refine VR.weak (.agg _ _ (by have := hv.1; simp at this hle ⊢; omega) fun j u u' hj hj' => ?_)
        have hj2 : j < i.size := by
          have := (Array.getElem?_eq_some_iff.1 hj).1
          simp at this; omega
        have hlc := hv.1
        simp at hlc hle
        refine hv.2 (fd.offset + j) u u' ?_ ?_
        · rw [← hj]; simp [List.getElem?_take, hj2]
        · rw [← hj']
          rw [Array.getElem?_extract]
          simp
          intro hh
          omega
    · simp only [hag, if_false, Bool.false_eq_true] at e
      obtain ⟨rfl, rfl, cs, hp, hg⟩ := opField_some e
      rw [hp] at hx
      obtain ⟨cs', hx', hv⟩ := hx.agg_inv
      obtain ⟨u, hu', hvr⟩ := hv.get hg
      refine .same r (v' := u) ?_ hvr.weak
      have hg' : cs'[fd.offset]? = some u := by simpa using hu'
      unfold aggT at hag
      rw [hd] at hag
      cases d' <;> simp at hag <;> simp [execOp, ho, Instr.field, run_underlying hu, hf, asAgg, hx', part, isAgg, run_underlying hd, hg']

theorem sim_indexAddr (r : R G ρ h w) (l : Live ρ N Γ a) {t : TypeId} {x i : Operand} (ho : o.op = .indexAddr t x i) (e : aop P G E Γ o.op n h = some (v, n', h')) : Does P G o a w ρ h v h' := by
  rw [ho] at e
  simp only [aop] at e
  have hx := ev_sim r l x
  have hy := ev_sim r l i
  cases hu : P.underlying t with
  | none => simp only [hu] at e; cases e
  | some d =>
  cases d <;> simp only [hu] at e <;> try (cases e; done)
  · rename_i el
    cases hi : P.info? el with
    | none => simp only [hi] at e; cases e
    | some inf =>
    simp only [hi] at e
    obtain ⟨rfl, rfl, b, o', len, cap, k, j, hp, hj, h0, h1, rfl⟩ := opIndexAddr_some e
    rw [hp] at hx
    rw [hj] at hy
    obtain ⟨_, _, L, a', c', hxe, hL, hx', hs⟩ := hx.slice_inv
    cases hxe
    have hcap : c' ≠ 0 := by have := hs.le; omega
    have ha' := hs.at_ hcap
    subst ha'
    refine .same r (v' := .pointer (some ⟨L.blk, L.off + (o' + j.toNat * inf.size), none⟩)) ?_ (VR.ptr _ _ _ hL).weak
    simp [execOp, ho, Instr.indexAt, hy.int_inv, asIntOf, run_underlying hu, hx', h0, h1, sizeOf, typeInfo, hi, addr_add, Nat.add_assoc]
  · rename_i len el
    cases hi : P.info? el with
    | none => simp only [hi] at e; cases e
    | some inf =>
    simp only [hi] at e
    obtain ⟨rfl, rfl, b, o', k, j, hp, hj, h0, h1, rfl⟩ := opIndexAddrA_some e
    rw [hp] at hx
    rw [hj] at hy
    obtain ⟨_, _, L, hxe, hL, hx'⟩ := hx.ptr_inv
    cases hxe
    refine .same r (v' := .pointer (some ⟨L.blk, L.off + (o' + j.toNat * inf.size), none⟩)) ?_ (VR.ptr _ _ _ hL).weak
    simp [execOp, ho, Instr.indexAt, hy.int_inv, asIntOf, run_underlying hu, hx', Instr.sureAddr, h0, h1, sizeOf, typeInfo, hi, addr_add, Nat.add_assoc]

theorem sim_index (r : R G ρ h w) (l : Live ρ N Γ a) {t : TypeId} {x i : Operand} (ho : o.op = .index t x i) (e : aop P G E Γ o.op n h = some (v, n', h')) : Does P G o a w ρ h v h' := by
  rw [ho] at e
  simp only [aop] at e
  have hx := ev_sim r l x
  have hy := ev_sim r l i
  cases hu : P.underlying t with
  | none => simp only [hu] at e; cases e
  | some d =>
  cases d <;> simp only [hu] at e <;> try (cases e; done)
  · obtain ⟨rfl, rfl, s, k, j, b, hp, hj, h0, hb, rfl⟩ := opIndexS_some e
    rw [hp] at hx
    rw [hj] at hy
    refine .same r (v' := .int .u8 b.toNat) ?_ (VR.int _ _).weak
    simp [execOp, ho, Instr.index, hy.int_inv, asIntOf, run_underlying hu, hx.string_inv, h0, hb]
  · rename_i len el
    cases hd : P.underlying el with
    | none => simp only [hd] at e; cases e
    | some d' =>
    cases hi : P.info? el with
    | none => simp only [hd, hi] at e; cases e
    | some inf =>
    simp only [hd, hi] at e
    by_cases hag : aggT P el = true
    · simp only [hag, if_true] at e; cases e
    · simp only [hag, if_false, Bool.false_eq_true] at e
      by_cases h1 : inf.size = 1
      · simp only [h1, if_true] at e
        obtain ⟨rfl, rfl, cs, k, j, hp, hj, h0, hlt, hg⟩ := opIndexA_some e
        rw [hp] at hx
        rw [hj] at hy
        obtain ⟨cs', hx', hv⟩ := hx.agg_inv
        obtain ⟨u, hu', hvr⟩ := hv.get hg
        refine .same r (v' := u) ?_ hvr.weak
        have hg' : cs'[j.toNat]? = some u := by simpa using hu'
        unfold aggT at hag
        rw [hd] at hag
        cases d' <;> simp at hag <;> simp [execOp, ho, Instr.index, hy.int_inv, asIntOf, run_underlying hu, hx', h0, hlt, sizeOf, typeInfo, hi, h1, part, isAgg, run_underlying hd, hg']
      · simp only [h1, if_false] at e; cases e

theorem sim_extract (r : R G ρ h w) (l : Live ρ N Γ a) {x : Operand} {i : Nat} (ho : o.op = .extract x i) (e : aop P G E Γ o.op n h = some (v, n', h')) : Does P G o a w ρ h v h' := by
  rw [ho] at e
  obtain ⟨rfl, rfl, vs, hp, hg, h1⟩ := opExtract_some e
  have hx := ev_sim r l x
  rw [hp] at hx
  rcases hx.tuple_inv with rfl | rfl | ⟨cs', hx', hv⟩
  · simp at hg
  · cases i with
    | zero => simp at hg; subst hg; exact absurd ⟨rfl, rfl⟩ h1
    | succ i => simp at hg
  · obtain ⟨u, hu', hvr⟩ := hv.get hg
    refine .same r (v' := u) ?_ hvr.weak
    have hg' : cs'[i]? = some u := by simpa using hu'
    simp [execOp, ho, Instr.extract, hx', hg']

theorem sim_not (r : R G ρ h w) (l : Live ρ N Γ a) {t : TypeId} {x : Operand} (ho : o.op = .unOp .not t x) (e : aop P G E Γ o.op n h = some (v, n', h')) : Does P G o a w ρ h v h' := by
  rw [ho] at e
  obtain ⟨rfl, rfl, b, hp, rfl⟩ := opNot_some e
  have hx := ev_sim r l x
  rw [hp] at hx
  exact .same r (v' := .bool (!b)) (by simp [execOp, ho, Op.unary, hx.bool_inv]) (VR.bool _).weak
theorem sim_neg (r : R G ρ h w) (l : Live ρ N Γ a) {t : TypeId} {x : Operand} (ho : o.op = .unOp .neg t x) (e : aop P G E Γ o.op n h = some (v, n', h')) : Does P G o a w ρ h v h' := by
  rw [ho] at e
  obtain ⟨rfl, rfl, k, z, hp, rfl⟩ := opNeg_some e
  have hx := ev_sim r l x
  rw [hp] at hx
  exact .same r (v' := .int k (k.wrap (0 - z))) (by simp [execOp, ho, Op.unary, hx.int_inv, Op.intArith]) (VR.int _ _).weak
theorem sim_com (r : R G ρ h w) (l : Live ρ N Γ a) {t : TypeId} {x : Operand} (ho : o.op = .unOp .xor t x) (e : aop P G E Γ o.op n h = some (v, n', h')) : Does P G o a w ρ h v h' := by
  rw [ho] at e
  obtain ⟨rfl, rfl, k, z, hp, rfl⟩ := opCom_some e
  have hx := ev_sim r l x
  rw [hp] at hx
  exact .same r (v' := .int k _) (by simp [execOp, ho, Op.unary, hx.int_inv, Op.intBits]) (VR.int _ _).weak
theorem sim_convert (r : R G ρ h w) (l : Live ρ N Γ a) {s d : TypeId} {x : Operand} (ho : o.op = .convert s d x) (e : aop P G E Γ o.op n h = some (v, n', h')) : Does P G o a w ρ h v h' := by
  rw [ho] at e
  simp only [aop] at e
  have hx := ev_sim r l x
  cases hs : P.underlying s with
  | none => simp only [hs] at e; cases e
  | some ds =>
  cases hd : P.underlying d with
  | none => simp only [hs, hd] at e; cases e
  | some dd =>
  cases dd <;> simp only [hs, hd] at e <;> try (cases e; done)
  rename_i k
  obtain ⟨rfl, rfl, j, z, hp, rfl⟩ := opConv_some e
  rw [hp] at hx
  exact .same r (v' := .int k (k.wrap z)) (by simp [execOp, ho, convert, run_underlying hs, run_underlying hd, hx.int_inv, Conv.intToInt]) (VR.int _ _).weak
theorem sim_makeFunc (r : R G ρ h w) (l : Live ρ N Γ a) {fn : Fn} {fi cs : Array Operand} (ho : o.op = .makeFunc fn fi cs) (e : aop P G E Γ o.op n h = some (v, n', h')) : Does P G o a w ρ h v h' := by
  rw [ho] at e
  simp only [aop] at e
  by_cases hf : fi.toList.isEmpty = true
  · simp only [hf, if_true] at e
    obtain ⟨rfl, rfl, h1, rfl⟩ := opFunc_some e
    have hv := (WL.map r l cs.toList).strict h1
    have hfi : fi = #[] := by
      have : fi.toList = [] := List.isEmpty_iff.1 hf
      exact Array.toList_eq_nil_iff.1 this
    refine .same r (v' := .func fn #[] (cs.map a.eval)) ?_ (VR.func _ _ _ (by simp) fun i u u' hi hi' => hv.2 i u u' (by simpa using hi) (by simpa using hi')).weak
    simp [execOp, ho, Instr.makeFunc, hfi]
  · simp only [hf, if_false, Bool.false_eq_true] at e; cases e
end
end Go.Fw
end
section
namespace Go.Fw

/-! ### Keys -/

theorem wf64_inv {v : Value} (h : wf64 v = true) : ∃ z, v = .int .i64 z ∧ (Lit.int .i64 z).wf = true := by
  unfold wf64 at h
  split at h
  · exact ⟨_, rfl, h⟩
  · cases h

theorem ikey_succ {n : Nat} {v : Value} (h : ikey (n + 1) v = true) : ∃ cs : Array Value, v = .agg cs ∧ cs.size = n + 1 ∧ cs.toList.all wf64 = true := by
  unfold ikey at h
  split at h
  · rename_i e; cases e
  · rename_i cs e
    cases e
    rw [Bool.and_eq_true, decide_eq_true_eq] at h
    exact ⟨_, rfl, h.1, h.2⟩
  · cases h

theorem VR.wf64 {ρ : Map} {v v' : Value} (h : VR ρ v v') (hk : Fw.wf64 v = true) : v' = v := by
  obtain ⟨z, rfl, _⟩ := wf64_inv hk
  cases h; rfl

theorem VR.ikey {ρ : Map} {n : Nat} {v v' : Value} (h : VR ρ v v') (hk : Fw.ikey n v = true) : v' = v := by
  cases n with
  | zero => exact h.wf64 hk
  | succ n =>
    obtain ⟨cs, rfl, _, hc⟩ := ikey_succ hk
    cases h with
    | agg cs cs' hs hi =>
      congr 1
      refine Array.ext hs.symm fun i h1 h2 => ?_
      refine (hi i cs[i] cs'[i] (by simp [h2]) (by simp [h1])).wf64 ?_
      exact List.all_eq_true.1 hc _ (by simp)

theorem VW.ikey {ρ : Map} {n : Nat} {v v' : Value} (h : VW ρ v v') (hk : Fw.ikey n v = true) : v' = v := by
  rcases h with (rfl | ⟨rfl, _⟩) | h
  · cases n <;> simp [undef, Fw.ikey, Fw.wf64] at hk
  · cases n <;> simp [skipV, Fw.ikey, Fw.wf64] at hk
  · exact h.ikey hk

theorem keq1_iff {a b : Value} (ha : Fw.wf64 a = true) (hb : Fw.wf64 b = true) : keq1 a b = true ↔ a = b := by
  obtain ⟨y, rfl, _⟩ := wf64_inv ha
  obtain ⟨z, rfl, _⟩ := wf64_inv hb
  simp [keq1]
theorem keqL_iff : ∀ {a b : List Value}, a.all Fw.wf64 = true → b.all Fw.wf64 = true → (keqL a b = true ↔ a = b)
  | [], [], _, _ => by simp [keqL]
  | [], _ :: _, _, _ => by simp [keqL]
  | _ :: _, [], _, _ => by simp [keqL]
  | a :: r, b :: s, ha, hb => by
    rw [List.all_cons, Bool.and_eq_true] at ha hb
    simp only [keqL, Bool.and_eq_true, List.cons.injEq]
    rw [keq1_iff ha.1 hb.1, keqL_iff ha.2 hb.2]
theorem keq_iff {n : Nat} {a b : Value} (ha : Fw.ikey n a = true) (hb : Fw.ikey n b = true) : keq a b = true ↔ a = b := by
  cases n with
  | zero =>
    have e := keq1_iff (a := a) (b := b) ha hb
    obtain ⟨y, rfl, hy⟩ := wf64_inv ha
    obtain ⟨z, rfl, hz⟩ := wf64_inv hb
    exact e
  | succ n =>
    obtain ⟨as, rfl, _, hc⟩ := ikey_succ ha
    obtain ⟨bs, rfl, _, hd⟩ := ikey_succ hb
    simp only [keq]
    rw [keqL_iff hc hd, Array.toList_inj, Value.agg.injEq]

theorem keyLits_i64 {P : Program} {t : TypeId} (h : P.underlying t = some (.int .i64)) (d : Nat) {v : Value} (hv : Fw.wf64 v = true) : ∃ l, P.keyLits (d + 1) t [v] = some l := by
  obtain ⟨z, rfl, hz⟩ := wf64_inv hv
  refine ⟨[.int .i64 z], ?_⟩
  unfold Program.keyLits
  simp only [h]
  rw [if_pos ⟨trivial, hz⟩]

theorem mapM_isSome {α β : Type} {f : α → Option β} : ∀ {l : List α}, (∀ x, x ∈ l → ∃ y, f x = some y) → ∃ ys, l.mapM f = some ys
  | [], _ => ⟨[], rfl⟩
  | x :: l, h => by
    obtain ⟨y, hy⟩ := h x (by simp)
    obtain ⟨ys, hys⟩ := mapM_isSome (l := l) (f := f) fun z hz => h z (by simp [hz])
    exact ⟨y :: ys, by rw [List.mapM_cons, hy, hys]; rfl⟩

/-- WHAT IS KNOWN OF A KEY'S TYPE. -/
structure KeyT (P : Program) (k : TypeId) (n : Nat) : Prop where
  law : Maps.Keyed P k
  of : ∀ {v : Value}, ikey n v = true → ∃ l, keyOf P k v = some l

theorem intsT_some {P : Program} : ∀ {d : Nat} {t : TypeId} {n : Nat}, intsT P d t = some n → P.cellsOf t = n ∧ ∀ D, d ≤ D → ∀ cs : List Value, cs.length = n → cs.all Fw.wf64 = true → ∃ ls, P.keyLits D t cs = some ls
  | 0, _, _, h => by cases h
  | d + 1, t, n, h => by
    unfold intsT at h
    split at h
    · rename_i hu
      split at h
      case isFalse => cases h
      rename_i hc
      cases h
      refine ⟨hc, fun D hD cs hl ha => ?_⟩
      obtain ⟨D, rfl⟩ : ∃ E, D = E + 1 := ⟨D - 1, by omega⟩
      obtain ⟨v, rfl⟩ := List.length_eq_one_iff.1 hl
      rw [List.all_cons, Bool.and_eq_true] at ha
      exact keyLits_i64 hu D ha.1
    · rename_i fs hu
      split at h
      case isFalse => cases h
      rename_i hall
      cases h
      refine ⟨rfl, fun D hD cs hl ha => ?_⟩
      obtain ⟨D, rfl⟩ : ∃ E, D = E + 1 := ⟨D - 1, by omega⟩
      have hf : ∀ f, f ∈ fs.toList → (f.name != "_") = true ∧ ∃ k, intsT P d f.type = some k ∧ P.cellsOf f.type = k ∧ f.offset + k ≤ P.cellsOf t := fun f hm => by
        have := List.all_eq_true.1 hall f hm
        rw [Bool.and_eq_true] at this
        refine ⟨this.1, ?_⟩
        have h2 := this.2
        split at h2
        · rename_i k hk
          rw [Bool.and_eq_true, decide_eq_true_eq, decide_eq_true_eq] at h2
          exact ⟨k, hk, h2.1, h2.2⟩
        · cases h2
      obtain ⟨ys, hys⟩ := mapM_isSome (l := fs.toList) (f := fun f => P.keyLits D f.type ((cs.drop f.offset).take (P.cellsOf f.type))) fun f hm => by
        obtain ⟨_, k, h1, h2, h3⟩ := hf f hm
        refine (intsT_some h1).2 D (by omega) _ ?_ ?_
        · rw [List.length_take, List.length_drop, h2]; omega
        · refine List.all_eq_true.2 fun v hv => List.all_eq_true.1 ha v ?_
          exact List.mem_of_mem_drop (List.mem_of_mem_take hv)
      refine ⟨ys.flatten, ?_⟩
      unfold Program.keyLits
      simp only [hu]
      rw [if_pos ⟨hl, by
        rw [Array.all_eq_true]
        intro i hi
        exact (hf fs[i] (by simp)).1⟩, hys]
      rfl
    · cases h

theorem keyN_law {P : Program} {k : TypeId} {n : Nat} (h : keyN P k = some n) : KeyT P k n := by
  unfold keyN at h
  split at h
  · rename_i hu
    cases h
    refine ⟨Maps.int_keyed hu, fun {v} hv => ?_⟩
    obtain ⟨z, rfl, hz⟩ := wf64_inv hv
    exact ⟨.int .i64 z, by unfold keyOf mapKey; simp only [hu]; rw [if_pos ⟨trivial, hz⟩]⟩
  · rename_i fs hu
    split at h
    case isFalse => cases h
    rename_i hc
    simp only [Bool.and_eq_true, decide_eq_true_eq] at hc
    obtain ⟨⟨⟨⟨⟨h1, h2⟩, h3⟩, h4⟩, h5⟩, h6⟩ := hc
    obtain ⟨hcell, hlits⟩ := intsT_some h
    refine ⟨Maps.Keyed.of_law (deep_law_laid h1 (m := 3) (by decide) h2 h4 (by simp [hu])), fun {v} hv => ?_⟩
    obtain ⟨m, rfl⟩ : ∃ m, n = m + 1 := ⟨n - 1, by omega⟩
    obtain ⟨cs, rfl, hs, hall⟩ := ikey_succ hv
    have hform : Value.formed P k (.agg cs) = true := by
      unfold Value.formed
      simp only [hu]
      rw [beq_iff_eq]; omega
    obtain ⟨ls, hls⟩ := hlits (P.types.size + 1) (by omega) cs.toList (by rw [Array.length_toList]; exact hs) hall
    refine ⟨.string (keyBytes ls), ?_⟩
    unfold keyOf
    simp only [hu]
    rw [if_pos (by rw [h5, hform]; rfl)]
    show (P.keyLits (P.types.size + 1) k cs.toList).map _ = _
    rw [hls]
    rfl
  · cases h


theorem VW.niliface_inv {ρ : Map} {v' : Value} (h : VW ρ .nilIface v') : v' = .nilIface := by
  rcases h with (h | ⟨h, _⟩) | h
  · cases h
  · cases h
  · cases h; rfl

/-! ### Are two the same? -/
section
variable {P : Program} {w : World}

theorem eqN_law {t : TypeId} {n : Nat} (h : eqN P t = some n) : ∃ fs, P.underlying t = some (.struct fs) ∧ P.eqGuardType P.depth t = false ∧ P.keyTypeAt 3 t = true ∧ KeyT P t n := by
  unfold eqN at h
  split at h
  · rename_i fs hu
    split at h
    · cases h
    · rename_i hg
      have hg' : P.eqGuardType P.depth t = false := by simpa using hg
      refine ⟨fs, hu, hg', ?_, keyN_law h⟩
      unfold keyN at h
      rw [hu] at h
      simp only at h
      split at h
      · rename_i hc
        simp only [Bool.and_eq_true, decide_eq_true_eq] at hc
        exact hc.1.1.2
      · cases h
  · cases h

theorem eqN_pos {t : TypeId} {n : Nat} (h : eqN P t = some n) : n ≠ 0 := by
  unfold eqN at h
  split at h
  · rename_i fs hu
    split at h
    · cases h
    · unfold keyN at h
      rw [hu] at h
      simp only at h
      split at h
      · rename_i hc
        simp only [Bool.and_eq_true, decide_eq_true_eq] at hc
        have := (intsT_some h).1
        omega
      · cases h
  · cases h

theorem run_eqA {t : TypeId} {n : Nat} (hn : eqN P t = some n) (neg : Bool) {x y : Value} (hx : ikey n x = true) (hy : ikey n y = true) :
    (binOp (if neg then .neq else .eql) t x y).run P w = .ok (.bool (xor neg (keq x y))) w := by
  obtain ⟨fs, hu, _, hk, K⟩ := eqN_law hn
  obtain ⟨lx, hlx⟩ := K.of hx
  obtain ⟨ly, hly⟩ := K.of hy
  obtain ⟨r, hr, hiff⟩ := run_equal_deep (P := P) w (m := 3) (by decide) hk (by simp [hu]) hlx hly
  have hkq : r = keq x y := by
    rw [Bool.eq_iff_iff, hiff, keq_iff hx hy]
    constructor
    · rintro rfl; exact K.law.inj hlx hly
    · rintro rfl; rw [hlx] at hly; exact Option.some.inj hly
  subst hkq
  have hn0 := eqN_pos hn
  obtain ⟨m, rfl⟩ : ∃ m, n = m + 1 := ⟨n - 1, by omega⟩
  obtain ⟨cs, rfl, _⟩ := ikey_succ hx
  obtain ⟨ds, rfl, _⟩ := ikey_succ hy
  cases neg <;> simp only [Bool.false_eq_true, if_false, if_true, binOp, Sem.run_bind, hr, Result.andThen_ok, Sem.run_pure, Bool.false_xor, Bool.true_xor]

theorem run_guardA {t : TypeId} (hg : P.eqGuardType P.depth t = false) (op : BinOp) (x y : Operand) (cs ds : Array Value) : (eqGuard op t x y (.agg cs) (.agg ds)).run P w = .ok () w := by
  unfold eqGuard
  cases op <;> simp [hg]
theorem run_guardI {t : TypeId} (op : BinOp) {x y : Operand} (hc : (isC x || isC y) = true) : (eqGuard op t x y .nilIface .nilIface).run P w = .ok () w := by
  cases x <;> cases y <;> first
    | (cases op <;> simp [eqGuard]; done)
    | (simp [isC] at hc; done)
end
end Go.Fw
end
section
namespace Go.Fw

section
variable {P : Program} {G : Nat} {ρ : Map} {h : H} {w : World} {N : Nat} {Γ : List (Nat × Value)} {a : Act} {E : Env} {n n' : Nat} {h' : H} {v : Value} {o : Oper}

theorem bin_ints {op : BinOp} {x y v : Value} (hb : bin op x y = some v) : ∃ k i k' j, x = .int k i ∧ y = .int k' j := by
  unfold bin at hb
  split at hb
  · exact ⟨_, _, _, _, rfl, rfl⟩
  · cases hb

theorem run_bin {op : BinOp} {t : TypeId} {k k' : IntKind} {i j : Int} (hb : bin op (.int k i) (.int k' j) = some v) : (binOp op t (.int k i) (.int k' j)).run P w = .ok v w := by
  cases op <;> simp only [bin] at hb <;> simp only [binOp]
  case shl =>
    split at hb
    · cases hb
    · rename_i hn; cases hb; simp [Op.shift, hn]
  case shr =>
    split at hb
    · cases hb
    · rename_i hn; cases hb; simp [Op.shift, hn]
  case quo =>
    split at hb
    · rename_i hk
      split at hb
      · cases hb
      · rename_i hj; cases hb; simp [hk, Op.intDiv, hj]
    · cases hb
  case rem =>
    split at hb
    · rename_i hk
      split at hb
      · cases hb
      · rename_i hj; cases hb; simp [hk, Op.intDiv, hj]
    · cases hb
  all_goals
    split at hb
    · rename_i hk; cases hb; subst hk; simp [Op.intArith, Op.intBits, Op.intCmp]
    · cases hb

theorem VR.int_inv {k : IntKind} {i : Int} {v' : Value} (h : VR ρ (.int k i) v') : v' = .int k i := h.weak.int_inv

theorem run_opBin (r : R G ρ h w) (l : Live ρ N Γ a) {op : BinOp} {t yt : TypeId} {x y : Operand} (ho : o.op = .binOp op t x y yt) (e : opBin op (ev G Γ x) (ev G Γ y) n h = some (v, n', h')) : Does P G o a w ρ h v h' := by
  obtain ⟨rfl, rfl, hb⟩ := opBin_some e
  obtain ⟨k, i, k', j, hx, hy⟩ := bin_ints hb
  have hxv := ev_sim r l x
  have hyv := ev_sim r l y
  rw [hx] at hxv hb
  rw [hy] at hyv hb
  have hint : ∃ k z, v = .int k z ∨ ∃ b, v = .bool b := by
    unfold bin at hb
    cases op <;> simp only at hb <;> (repeat' split at hb) <;> first | (cases hb; done) | (simp only [Option.some.injEq] at hb; subst hb; first | exact ⟨_, _, .inl rfl⟩ | exact ⟨.i64, 0, .inr ⟨_, rfl⟩⟩)
  refine .same r (v' := v) ?_ ?_
  · have := run_bin (P := P) (w := w) (t := t) hb
    have hg : (eqGuard op t x y (.int k i) (.int k' j)).run P w = .ok () w := by
      unfold eqGuard
      cases op <;> simp
    simp [execOp, ho, hxv.int_inv, hyv.int_inv, hg, this]
  · rcases hint with ⟨k, z, rfl | ⟨b, rfl⟩⟩
    · exact (VR.int _ _).weak
    · exact (VR.bool _).weak

theorem eqB_some {x y : Value} {b : Bool} (e : eqB x y = some b) : ∃ i j, x = .bool i ∧ y = .bool j ∧ b = (i == j) := by
  unfold eqB at e
  split at e
  · cases e; exact ⟨_, _, rfl, rfl, rfl⟩
  · cases e
theorem eqP_some {x y : Value} {b : Bool} (e : eqP x y = some b) : (x = .pointer none ∧ y = .pointer none ∧ b = true) ∨ (∃ p, x = .pointer none ∧ y = .pointer (some p) ∧ b = false) ∨ ∃ p, x = .pointer (some p) ∧ y = .pointer none ∧ b = false := by
  unfold eqP at e
  split at e
  · cases e; exact .inl ⟨rfl, rfl, rfl⟩
  · cases e; exact .inr (.inl ⟨_, rfl, rfl, rfl⟩)
  · cases e; exact .inr (.inr ⟨_, rfl, rfl, rfl⟩)
  · cases e
theorem eqSl_some {x y : Value} {b : Bool} (e : eqSl x y = some b) : (∃ l c m d, x = .slice none l c ∧ y = .slice none m d ∧ b = true) ∨ (∃ p l c m d, x = .slice none l c ∧ y = .slice (some p) m d ∧ b = false) ∨ ∃ p l c m d, x = .slice (some p) l c ∧ y = .slice none m d ∧ b = false := by
  unfold eqSl at e
  split at e
  · cases e; exact .inl ⟨_, _, _, _, rfl, rfl, rfl⟩
  · cases e; exact .inr (.inl ⟨_, _, _, _, _, rfl, rfl, rfl⟩)
  · cases e; exact .inr (.inr ⟨_, _, _, _, _, rfl, rfl, rfl⟩)
  · cases e

theorem run_equalIn_sl {t el : TypeId} (hu : P.underlying t = some (.slice el)) (d : Nat) (b : Option Addr) (l c m k : Nat) : (Op.equalIn (d + 1) t (.slice none l c) (.slice b m k)).run P w = .ok b.isNone w := by
  simp [Op.equalIn, run_underlying hu]
theorem run_equalIn_sl' {t el : TypeId} (hu : P.underlying t = some (.slice el)) (d : Nat) (p : Addr) (l c m k : Nat) : (Op.equalIn (d + 1) t (.slice (some p) l c) (.slice none m k)).run P w = .ok false w := by
  simp [Op.equalIn, run_underlying hu]
theorem run_eqSl {t el : TypeId} (hu : P.underlying t = some (.slice el)) (neg : Bool) (b : Option Addr) (l c m k : Nat) :
    (binOp (if neg then .neq else .eql) t (.slice none l c) (.slice b m k)).run P w = .ok (.bool (xor neg b.isNone)) w := by
  have : (Op.equal t (.slice none l c) (.slice b m k)).run P w = .ok b.isNone w := run_equalIn_sl hu 9999 b l c m k
  cases neg <;> simp only [Bool.false_eq_true, if_false, if_true, binOp, Sem.run_bind, this, Result.andThen_ok, Sem.run_pure, Bool.false_xor, Bool.true_xor]
theorem run_eqSl' {t el : TypeId} (hu : P.underlying t = some (.slice el)) (neg : Bool) (p : Addr) (l c m k : Nat) :
    (binOp (if neg then .neq else .eql) t (.slice (some p) l c) (.slice none m k)).run P w = .ok (.bool (xor neg false)) w := by
  have : (Op.equal t (.slice (some p) l c) (.slice none m k)).run P w = .ok false w := run_equalIn_sl' hu 9999 p l c m k
  cases neg <;> simp only [Bool.false_eq_true, if_false, if_true, binOp, Sem.run_bind, this, Result.andThen_ok, Sem.run_pure, Bool.false_xor, Bool.true_xor, Bool.not_false]

theorem run_equalIn_b {t : TypeId} (hu : P.underlying t = some .bool) (d : Nat) (i j : Bool) : (Op.equalIn (d + 1) t (.bool i) (.bool j)).run P w = .ok (i == j) w := by
  simp [Op.equalIn, run_underlying hu]
theorem run_equalIn_p {t el : TypeId} (hu : P.underlying t = some (.pointer el)) (d : Nat) (b : Option Addr) : (Op.equalIn (d + 1) t (.pointer none) (.pointer b)).run P w = .ok b.isNone w := by
  simp [Op.equalIn, run_underlying hu]
theorem run_equalIn_p' {t el : TypeId} (hu : P.underlying t = some (.pointer el)) (d : Nat) (p : Addr) : (Op.equalIn (d + 1) t (.pointer (some p)) (.pointer none)).run P w = .ok false w := by
  simp [Op.equalIn, run_underlying hu]
theorem run_eqB {t : TypeId} (hu : P.underlying t = some .bool) (neg : Bool) (i j : Bool) : (binOp (if neg then .neq else .eql) t (.bool i) (.bool j)).run P w = .ok (.bool (xor neg (i == j))) w := by
  have : (Op.equal t (.bool i) (.bool j)).run P w = .ok (i == j) w := run_equalIn_b hu 9999 i j
  cases neg <;> simp only [Bool.false_eq_true, if_false, if_true, binOp, Sem.run_bind, this, Result.andThen_ok, Sem.run_pure, Bool.false_xor, Bool.true_xor]
theorem run_eqP {t el : TypeId} (hu : P.underlying t = some (.pointer el)) (neg : Bool) (b : Option Addr) : (binOp (if neg then .neq else .eql) t (.pointer none) (.pointer b)).run P w = .ok (.bool (xor neg b.isNone)) w := by
  have : (Op.equal t (.pointer none) (.pointer b)).run P w = .ok b.isNone w := run_equalIn_p hu 9999 b
  cases neg <;> simp only [Bool.false_eq_true, if_false, if_true, binOp, Sem.run_bind, this, Result.andThen_ok, Sem.run_pure, Bool.false_xor, Bool.true_xor]
theorem run_eqP' {t el : TypeId} (hu : P.underlying t = some (.pointer el)) (neg : Bool) (p : Addr) : (binOp (if neg then .neq else .eql) t (.pointer (some p)) (.pointer none)).run P w = .ok (.bool (xor neg false)) w := by
  have : (Op.equal t (.pointer (some p)) (.pointer none)).run P w = .ok false w := run_equalIn_p' hu 9999 p
  cases neg <;> simp only [Bool.false_eq_true, if_false, if_true, binOp, Sem.run_bind, this, Result.andThen_ok, Sem.run_pure, Bool.false_xor, Bool.true_xor, Bool.not_false]

theorem run_equalIn_i {t : TypeId} {ms : Array (String × TypeId)} (hu : P.underlying t = some (.interface ms)) (d : Nat) : (Op.equalIn (d + 1) t .nilIface .nilIface).run P w = .ok true w := by
  simp [Op.equalIn, run_underlying hu]

theorem run_equalIn_i' {t : TypeId} {ms : Array (String × TypeId)} (hu : P.underlying t = some (.interface ms)) (d : Nat) (t2 : TypeId) (u : Value) : (Op.equalIn (d + 1) t (.iface t2 u) .nilIface).run P w = .ok false w := by
  simp [Op.equalIn, run_underlying hu]

theorem does_bool (r : R G ρ h w) {op : BinOp} {t yt : TypeId} {x y : Operand} (ho : o.op = .binOp op t x y yt) {b : Bool} {u z : Value} (hx : a.eval x = u) (hy : a.eval y = z)
    (hg : (eqGuard op t x y u z).run P w = .ok () w) (hr : (binOp op t u z).run P w = .ok (.bool b) w) : Does P G o a w ρ h (.bool b) h :=
  .same r (v' := .bool b) (by simp [execOp, ho, hx, hy, hg, hr]) (VR.bool _).weak

theorem sim_binOp (r : R G ρ h w) (l : Live ρ N Γ a) {op : BinOp} {t yt : TypeId} {x y : Operand} (ho : o.op = .binOp op t x y yt) (e : aop P G E Γ o.op n h = some (v, n', h')) : Does P G o a w ρ h v h' := by
  rw [ho] at e
  have hx := ev_sim r l x
  have hy := ev_sim r l y
  have key : ∀ (neg : Bool) (f : Value → Value → Option Bool), opEq f neg (ev G Γ x) (ev G Γ y) n h = some (v, n', h') →
      (∀ b, f (ev G Γ x) (ev G Γ y) = some b → ∃ u z, a.eval x = u ∧ a.eval y = z ∧ (eqGuard (if neg then .neq else .eql) t x y u z).run P w = .ok () w ∧ (binOp (if neg then .neq else .eql) t u z).run P w = .ok (.bool (xor neg b)) w) →
      op = (if neg then .neq else .eql) → Does P G o a w ρ h v h' := by
    intro neg f e hk hop
    obtain ⟨rfl, rfl, b, hb, rfl⟩ := opEq_some e
    obtain ⟨u, z, h1, h2, h3, h4⟩ := hk b hb
    subst hop
    exact does_bool r ho h1 h2 h3 h4
  have kB : ∀ neg b, P.underlying t = some .bool → eqB (ev G Γ x) (ev G Γ y) = some b → ∃ u z, a.eval x = u ∧ a.eval y = z ∧ (eqGuard (if neg then .neq else .eql) t x y u z).run P w = .ok () w ∧ (binOp (if neg then .neq else .eql) t u z).run P w = .ok (.bool (xor neg b)) w := by
    intro neg b hu hb
    obtain ⟨i, j, hxe, hye, rfl⟩ := eqB_some hb
    rw [hxe] at hx; rw [hye] at hy
    exact ⟨_, _, hx.bool_inv, hy.bool_inv, by cases neg <;> simp [eqGuard], run_eqB hu neg i j⟩
  have kP : ∀ neg b el, P.underlying t = some (.pointer el) → eqP (ev G Γ x) (ev G Γ y) = some b → ∃ u z, a.eval x = u ∧ a.eval y = z ∧ (eqGuard (if neg then .neq else .eql) t x y u z).run P w = .ok () w ∧ (binOp (if neg then .neq else .eql) t u z).run P w = .ok (.bool (xor neg b)) w := by
    intro neg b el hu hb
    rcases eqP_some hb with ⟨hxe, hye, rfl⟩ | ⟨p, hxe, hye, rfl⟩ | ⟨p, hxe, hye, rfl⟩
    · rw [hxe] at hx; rw [hye] at hy
      exact ⟨_, _, hx.nilptr_inv, hy.nilptr_inv, by cases neg <;> simp [eqGuard], run_eqP hu neg none⟩
    · rw [hxe] at hx; rw [hye] at hy
      obtain ⟨_, _, L, _, _, hv'⟩ := hy.ptr_inv
      exact ⟨_, _, hx.nilptr_inv, hv', by cases neg <;> simp [eqGuard], run_eqP hu neg (some _)⟩
    · rw [hxe] at hx; rw [hye] at hy
      obtain ⟨_, _, L, _, _, hv'⟩ := hx.ptr_inv
      exact ⟨_, _, hv', hy.nilptr_inv, by cases neg <;> simp [eqGuard], run_eqP' hu neg _⟩
  have kS : ∀ neg b el, P.underlying t = some (.slice el) → eqSl (ev G Γ x) (ev G Γ y) = some b → ∃ u z, a.eval x = u ∧ a.eval y = z ∧ (eqGuard (if neg then .neq else .eql) t x y u z).run P w = .ok () w ∧ (binOp (if neg then .neq else .eql) t u z).run P w = .ok (.bool (xor neg b)) w := by
    intro neg b el hu hb
    rcases eqSl_some hb with ⟨_, _, _, _, hxe, hye, rfl⟩ | ⟨p, _, _, _, _, hxe, hye, rfl⟩ | ⟨p, _, _, _, _, hxe, hye, rfl⟩
    · rw [hxe] at hx; rw [hye] at hy
      exact ⟨_, _, hx.nilslice_inv.2.2, hy.nilslice_inv.2.2, by cases neg <;> simp [eqGuard], run_eqSl hu neg none 0 0 0 0⟩
    · rw [hxe] at hx; rw [hye] at hy
      obtain ⟨_, _, L, p', _, _, _, hv', _⟩ := hy.slice_inv
      exact ⟨_, _, hx.nilslice_inv.2.2, hv', by cases neg <;> simp [eqGuard], run_eqSl hu neg (some p') 0 0 _ _⟩
    · rw [hxe] at hx; rw [hye] at hy
      obtain ⟨_, _, L, _, _, _, _, hv', _⟩ := hx.slice_inv
      exact ⟨_, _, hv', hy.nilslice_inv.2.2, by cases neg <;> simp [eqGuard], run_eqSl' hu neg _ _ _ 0 0⟩
  have kA : ∀ neg b n, eqN P t = some n → eqA n (ev G Γ x) (ev G Γ y) = some b → ∃ u z, a.eval x = u ∧ a.eval y = z ∧ (eqGuard (if neg then .neq else .eql) t x y u z).run P w = .ok () w ∧ (binOp (if neg then .neq else .eql) t u z).run P w = .ok (.bool (xor neg b)) w := by
    intro neg b n hn hb
    unfold eqA at hb
    split at hb
    case isFalse => cases hb
    rename_i hk
    rw [Bool.and_eq_true] at hk
    cases hb
    obtain ⟨fs, hu, hg, _, _⟩ := eqN_law hn
    refine ⟨_, _, hx.ikey hk.1, hy.ikey hk.2, ?_, run_eqA hn neg hk.1 hk.2⟩
    have ag : ∀ {v : Value}, ikey n v = true → ∃ cs, v = .agg cs ∨ n = 0 := fun {v} hv => by
      cases n with
      | zero => exact ⟨#[], .inr rfl⟩
      | succ n => obtain ⟨cs, h, _⟩ := ikey_succ hv; exact ⟨cs, .inl h⟩
    have hn0 : n ≠ 0 := eqN_pos hn
    obtain ⟨cs, hcs⟩ := ag hk.1
    obtain ⟨ds, hds⟩ := ag hk.2
    rw [hcs.resolve_right hn0, hds.resolve_right hn0]
    exact run_guardA hg _ x y cs ds
  have kI : ∀ neg b ms, P.underlying t = some (.interface ms) → (isC x || isC y) = true → eqI (ev G Γ x) (ev G Γ y) = some b → ∃ u z, a.eval x = u ∧ a.eval y = z ∧ (eqGuard (if neg then .neq else .eql) t x y u z).run P w = .ok () w ∧ (binOp (if neg then .neq else .eql) t u z).run P w = .ok (.bool (xor neg b)) w := by
    intro neg b ms hu hc hb
    unfold eqI at hb
    split at hb
    case h_3 => cases hb
    · rename_i hxe hye
      cases hb
      rw [hxe] at hx; rw [hye] at hy
      refine ⟨_, _, hx.niliface_inv, hy.niliface_inv, ?_, ?_⟩
      · exact run_guardI _ hc
      · have : (Op.equal t .nilIface .nilIface).run P w = .ok true w := run_equalIn_i hu 9999
        cases neg <;> simp only [Bool.false_eq_true, if_false, if_true, binOp, Sem.run_bind, this, Result.andThen_ok, Sem.run_pure, Bool.false_xor, Bool.true_xor]
    · rename_i t2 v2 hxe hye
      cases hb
      rw [hxe] at hx; rw [hye] at hy
      obtain ⟨u2, hx', _⟩ := hx.iface_inv
      refine ⟨_, _, hx', hy.niliface_inv, ?_, ?_⟩
      · cases neg <;> simp [eqGuard]
      · have : (Op.equal t (.iface t2 u2) .nilIface).run P w = .ok false w := run_equalIn_i' hu 9999 t2 u2
        cases neg <;> simp only [Bool.false_eq_true, if_false, if_true, binOp, Sem.run_bind, this, Result.andThen_ok, Sem.run_pure, Bool.false_xor, Bool.true_xor, Bool.not_false]
  cases op with
  | eql =>
    simp only [aop] at e
    cases hu : P.underlying t with
    | none => simp only [hu] at e; exact run_opBin r l ho e
    | some d =>
      cases d <;> simp only [hu] at e <;> first
        | exact key false eqB e (fun b hb => kB false b hu hb) rfl
        | exact key false eqP e (fun b hb => kP false b _ hu hb) rfl
        | exact key false eqSl e (fun b hb => kS false b _ hu hb) rfl
        | (split at e
           · rename_i q hq; exact key false (eqA q) e (fun b hb => kA false b q hq hb) rfl
           · cases e)
        | (split at e
           · rename_i hc; exact key false eqI e (fun b hb => kI false b _ hu hc hb) rfl
           · cases e)
        | exact run_opBin r l ho e
  | neq =>
    simp only [aop] at e
    cases hu : P.underlying t with
    | none => simp only [hu] at e; exact run_opBin r l ho e
    | some d =>
      cases d <;> simp only [hu] at e <;> first
        | exact key true eqB e (fun b hb => kB true b hu hb) rfl
        | exact key true eqP e (fun b hb => kP true b _ hu hb) rfl
        | exact key true eqSl e (fun b hb => kS true b _ hu hb) rfl
        | (split at e
           · rename_i q hq; exact key true (eqA q) e (fun b hb => kA true b q hq hb) rfl
           · cases e)
        | (split at e
           · rename_i hc; exact key true eqI e (fun b hb => kI true b _ hu hc hb) rfl
           · cases e)
        | exact run_opBin r l ho e
  | _ => exact run_opBin r l ho e

/-! ### len, max, min -/

theorem sim_len (r : R G ρ h w) (l : Live ρ N Γ a) {c : Call} (ho : o.op = .call c) (hc : c.callee = .builtin .len) (e : aop P G E Γ o.op n h = some (v, n', h')) : Does P G o a w ρ h v h' := by
  rw [ho] at e
  simp only [aop, hc] at e
  cases hts : c.argTypes.toList with
  | nil => simp only [hts] at e; cases e
  | cons t ts =>
  cases ts with
  | cons _ _ => simp only [hts] at e; cases e
  | nil =>
  cases hxs : c.args.toList with
  | nil => simp only [hts, hxs] at e; cases e
  | cons x xs =>
  cases xs with
  | cons _ _ => simp only [hts, hxs] at e; cases e
  | nil =>
  simp only [hts, hxs] at e
  have hta : c.argTypes = #[t] := by rw [← Array.toArray_toList (xs := c.argTypes), hts]
  have hxa : c.args = #[x] := by rw [← Array.toArray_toList (xs := c.args), hxs]
  have hx := ev_sim r l x
  cases hu : P.underlying t with
  | none => simp only [hu] at e; cases e
  | some d =>
  cases d <;> simp only [hu] at e <;> try (cases e; done)
  · obtain ⟨rfl, rfl, s, hp, rfl⟩ := opLenS_some e
    rw [hp] at hx
    exact .same r (v' := .int .i64 s.size) (by simp [execOp, ho, resolve, hc, hta, hxa, invoke, builtin, Builtin.len_, run_underlying hu, hx.string_inv, goInt]) (VR.int _ _).weak
  · obtain ⟨rfl, rfl, p, k, q, hp, rfl⟩ := opLen_some e
    rw [hp] at hx
    refine .same r (v' := .int .i64 k) ?_ (VR.int _ _).weak
    have : ∃ p' q', a.eval x = .slice p' k q' := by
      cases p with
      | none => obtain ⟨rfl, rfl, h⟩ := hx.nilslice_inv; exact ⟨_, _, h⟩
      | some p => obtain ⟨_, _, L, a', c', _, _, h, _⟩ := hx.slice_inv; exact ⟨_, _, h⟩
    obtain ⟨p', q', hx'⟩ := this
    simp [execOp, ho, resolve, hc, hta, hxa, invoke, builtin, Builtin.len_, run_underlying hu, hx', goInt]

theorem opCap_some {x v : Value} {n n' : Nat} {h h' : H} (e : opCap x n h = some (v, n', h')) : n' = n ∧ h' = h ∧ ∃ p k c, x = .slice p k c ∧ c < U ∧ v = .int .i64 c := by
  obtain ⟨q, hq⟩ : ∃ q, q = opCap x := ⟨_, rfl⟩
  rw [← hq] at e
  unfold opCap at hq
  split at hq
  · split at hq
    · rename_i hc
      subst hq; obtain ⟨rfl, rfl, rfl⟩ := ret_some e; exact ⟨rfl, rfl, _, _, _, rfl, hc, rfl⟩
    · subst hq; cases e
  · subst hq; cases e
theorem sim_cap (r : R G ρ h w) (l : Live ρ N Γ a) {c : Call} (ho : o.op = .call c) (hc : c.callee = .builtin .cap) (e : aop P G E Γ o.op n h = some (v, n', h')) : Does P G o a w ρ h v h' := by
  rw [ho] at e
  simp only [aop, hc] at e
  cases hts : c.argTypes.toList with
  | nil => simp only [hts] at e; cases e
  | cons t ts =>
  cases ts with
  | cons _ _ => simp only [hts] at e; cases e
  | nil =>
  cases hxs : c.args.toList with
  | nil => simp only [hts, hxs] at e; cases e
  | cons x xs =>
  cases xs with
  | cons _ _ => simp only [hts, hxs] at e; cases e
  | nil =>
  simp only [hts, hxs] at e
  have hta : c.argTypes = #[t] := by rw [← Array.toArray_toList (xs := c.argTypes), hts]
  have hxa : c.args = #[x] := by rw [← Array.toArray_toList (xs := c.args), hxs]
  have hx := ev_sim r l x
  cases hu : P.underlying t with
  | none => simp only [hu] at e; cases e
  | some d =>
  cases d <;> simp only [hu] at e <;> try (cases e; done)
  obtain ⟨rfl, rfl, p, k, q, hp, hq, rfl⟩ := opCap_some e
  rw [hp] at hx
  refine .same r (v' := .int .i64 q) ?_ (VR.int _ _).weak
  have : ∃ p', a.eval x = .slice p' k q := by
    cases p with
    | none => obtain ⟨rfl, rfl, h⟩ := hx.nilslice_inv; exact ⟨_, h⟩
    | some p => obtain ⟨_, _, L, a', c', _, _, h, hs⟩ := hx.slice_inv; have hk := hs.known hq; subst hk; exact ⟨_, h⟩
  obtain ⟨p', hx'⟩ := this
  simp [execOp, ho, resolve, hc, hta, hxa, invoke, builtin, Builtin.cap_, run_underlying hu, hx', goInt]

theorem run_fold {f : Value → Value → Option Value} {g : Value → Value → Sem Value} (hfg : ∀ x y z, f x y = some z → ∃ k i j l, x = .int k i ∧ y = .int l j ∧ (∃ q, z = .int k q) ∧ ∀ w, (g x y).run P w = .ok z w) :
    ∀ (ys ys' : List Value) (x v : Value), foldO f x ys = some v → (∃ k i, x = .int k i) → WL ρ ys ys' → (∃ k i, v = .int k i) ∧ (ys'.foldlM g x).run P w = .ok v w
  | [], ys', x, v, e, hx, hl => by
    have hys : ys' = [] := List.eq_nil_of_length_eq_zero (by have := hl.1; simpa using this.symm)
    subst hys
    simp only [foldO, Option.some.injEq] at e
    subst e
    exact ⟨hx, by simp⟩
  | y :: ys, ys', x, v, e, hx, hl => by
    obtain ⟨u, us, rfl, hu, hus⟩ := hl.head
    simp only [foldO] at e
    split at e
    · rename_i z hz
      obtain ⟨k, i, j, l, rfl, rfl, ⟨q, rfl⟩, hr⟩ := hfg _ _ _ hz
      obtain ⟨hv, hrun⟩ := run_fold hfg ys us _ v e ⟨_, _, rfl⟩ hus
      refine ⟨hv, ?_⟩
      rw [hu.int_inv]
      simp [hr, hrun]
    · cases e

theorem max2_run {x y z : Value} (e : max2 x y = some z) : ∃ k i j l, x = .int k i ∧ y = .int l j ∧ (∃ q, z = .int k q) ∧ ∀ w, (Builtin.max2 x y).run P w = .ok z w := by
  unfold max2 at e
  split at e
  · cases e; exact ⟨_, _, _, _, rfl, rfl, ⟨_, rfl⟩, fun w => by simp [Builtin.max2]⟩
  · cases e
theorem min2_run {x y z : Value} (e : min2 x y = some z) : ∃ k i j l, x = .int k i ∧ y = .int l j ∧ (∃ q, z = .int k q) ∧ ∀ w, (Builtin.min2 x y).run P w = .ok z w := by
  unfold min2 at e
  split at e
  · cases e; exact ⟨_, _, _, _, rfl, rfl, ⟨_, rfl⟩, fun w => by simp [Builtin.min2]⟩
  · cases e

theorem foldO_int {f : Value → Value → Option Value} (hf : ∀ x y z, f x y = some z → ∃ k i, x = .int k i) {x v : Value} {ys : List Value} (hy : ys ≠ []) (e : foldO f x ys = some v) : ∃ k i, x = .int k i := by
  cases ys with
  | nil => exact absurd rfl hy
  | cons y r =>
    simp only [foldO] at e
    split at e
    · rename_i z hz; exact hf _ _ _ hz
    · cases e

theorem sim_max (r : R G ρ h w) (l : Live ρ N Γ a) {c : Call} (ho : o.op = .call c) (hc : c.callee = .builtin .max) (e : aop P G E Γ o.op n h = some (v, n', h')) : Does P G o a w ρ h v h' := by
  rw [ho] at e
  simp only [aop, hc] at e
  obtain ⟨rfl, rfl, x, rs, hxs, hf⟩ := opMax_some e
  have hl := WL.map r l c.args.toList
  rw [hxs] at hl
  obtain ⟨u, us, hu, hxu, hrs⟩ := hl.head
  by_cases hne : rs = []
  · subst hne
    have hus : us = [] := List.eq_nil_of_length_eq_zero (by have := hrs.1; simpa using this.symm)
    subst hus
    simp only [foldO, Option.some.injEq] at hf
    subst hf
    refine .same r (v' := u) ?_ hxu
    simp [execOp, ho, resolve, hc, invoke, builtin, Builtin.max_, hu]
  · obtain ⟨k, i, rfl⟩ := foldO_int (fun x y z hz => by obtain ⟨k, i, _, _, h, _⟩ := max2_run (P := P) hz; exact ⟨k, i, h⟩) hne hf
    obtain ⟨⟨k', i', rfl⟩, hrun⟩ := run_fold (P := P) (w := w) (fun x y z hz => max2_run hz) rs us _ v hf ⟨_, _, rfl⟩ hrs
    rw [hxu.int_inv] at hu
    refine .same r (v' := .int k' i') ?_ (VR.int _ _).weak
    simp [execOp, ho, resolve, hc, invoke, builtin, Builtin.max_, hu, hrun]

theorem sim_min (r : R G ρ h w) (l : Live ρ N Γ a) {c : Call} (ho : o.op = .call c) (hc : c.callee = .builtin .min) (e : aop P G E Γ o.op n h = some (v, n', h')) : Does P G o a w ρ h v h' := by
  rw [ho] at e
  simp only [aop, hc] at e
  obtain ⟨rfl, rfl, x, rs, hxs, hf⟩ := opMin_some e
  have hl := WL.map r l c.args.toList
  rw [hxs] at hl
  obtain ⟨u, us, hu, hxu, hrs⟩ := hl.head
  by_cases hne : rs = []
  · subst hne
    have hus : us = [] := List.eq_nil_of_length_eq_zero (by have := hrs.1; simpa using this.symm)
    subst hus
    simp only [foldO, Option.some.injEq] at hf
    subst hf
    refine .same r (v' := u) ?_ hxu
    simp [execOp, ho, resolve, hc, invoke, builtin, Builtin.min_, hu]
  · obtain ⟨k, i, rfl⟩ := foldO_int (fun x y z hz => by obtain ⟨k, i, _, _, h, _⟩ := min2_run (P := P) hz; exact ⟨k, i, h⟩) hne hf
    obtain ⟨⟨k', i', rfl⟩, hrun⟩ := run_fold (P := P) (w := w) (fun x y z hz => min2_run hz) rs us _ v hf ⟨_, _, rfl⟩ hrs
    rw [hxu.int_inv] at hu
    refine .same r (v' := .int k' i') ?_ (VR.int _ _).weak
    simp [execOp, ho, resolve, hc, invoke, builtin, Builtin.min_, hu, hrun]
end
end Go.Fw
end
section
namespace Go.Fw

/-- What comes of a slice of a slice. -/
def Cut (size : Nat) (a : Option Addr) (len cap : Nat) (l h : Int) (mx : Option Int) (v : Value) : Prop :=
  (∃ b o, a = some ⟨b, o, none⟩ ∧ ∃ c, v = .slice (some ⟨b, o + l.toNat * size, none⟩) (h - l).toNat c ∧
    ((mx = none ∧ cap = U + size ∧ c = cap) ∨ (mx = none ∧ cap < U ∧ c = cap - l.toNat) ∨ ∃ m, mx = some m ∧ (cap = U + size ∨ cap < U) ∧ c = (m - l).toNat)) ∨
  (a = none ∧ v = .slice none 0 0)

theorem opSlice_some {size : Nat} {x : Value} {lo hi mx : Option Value} {n : Nat} {h : H} {v : Value} {n' : Nat} {h' : H} (e : opSlice size x lo hi mx n h = some (v, n', h')) :
    n' = n ∧ h' = h ∧ ∃ a len cap l k, x = .slice a len cap ∧ lo.elim (some 0) bound = some l ∧ hi.elim (some (len : Int)) bound = some k ∧ 0 ≤ l ∧ l ≤ k ∧
      ((mx = none ∧ k ≤ (len : Int) ∧ Cut size a len cap l k none v) ∨
       ∃ mv m, mx = some mv ∧ bound mv = some m ∧ hi.isSome = true ∧ k ≤ m ∧ m ≤ (len : Int) ∧ m ≤ 1099511627776 ∧ Cut size a len cap l k (some m) v) := by
  obtain ⟨q, hq⟩ : ∃ q, q = opSlice size x lo hi mx := ⟨_, rfl⟩
  rw [← hq] at e
  unfold opSlice at hq
  split at hq
  · rename_i a len cap
    split at hq
    · rename_i l k m hl hk hm
      split at hq
      · rename_i h0
        split at hq
        · split at hq
          · rename_i hle
            split at hq
            · split at hq
              · subst hq; obtain ⟨rfl, rfl, rfl⟩ := ret_some e
                exact ⟨rfl, rfl, _, _, _, l, k, rfl, hl, hk, h0.1, h0.2, .inl ⟨rfl, hle, .inl ⟨_, _, rfl, _, rfl, .inl ⟨rfl, by assumption, rfl⟩⟩⟩⟩
              · subst hq; cases e
            · split at hq
              · split at hq
                · subst hq; obtain ⟨rfl, rfl, rfl⟩ := ret_some e
                  exact ⟨rfl, rfl, _, _, _, l, k, rfl, hl, hk, h0.1, h0.2, .inl ⟨rfl, hle, .inl ⟨_, _, rfl, _, rfl, .inr (.inl ⟨rfl, by assumption, rfl⟩)⟩⟩⟩
                · subst hq; obtain ⟨rfl, rfl, rfl⟩ := ret_some e
                  exact ⟨rfl, rfl, _, _, _, l, k, rfl, hl, hk, h0.1, h0.2, .inl ⟨rfl, hle, .inr ⟨rfl, rfl⟩⟩⟩
                · subst hq; cases e
              · subst hq; cases e
          · subst hq; cases e
        · rename_i mv
          split at hq
          · rename_i hle
            split at hq
            · split at hq
              · subst hq; obtain ⟨rfl, rfl, rfl⟩ := ret_some e
                exact ⟨rfl, rfl, _, _, _, l, k, rfl, hl, hk, h0.1, h0.2, .inr ⟨mv, m, rfl, hm, hle.1, hle.2.1, hle.2.2.1, hle.2.2.2, .inl ⟨_, _, rfl, _, rfl, .inr (.inr ⟨m, rfl, by assumption, rfl⟩)⟩⟩⟩
              · subst hq; cases e
            · subst hq; obtain ⟨rfl, rfl, rfl⟩ := ret_some e
              exact ⟨rfl, rfl, _, _, _, l, k, rfl, hl, hk, h0.1, h0.2, .inr ⟨mv, m, rfl, hm, hle.1, hle.2.1, hle.2.2.1, hle.2.2.2, .inr ⟨rfl, rfl⟩⟩⟩
            · subst hq; cases e
          · subst hq; cases e
      · subst hq; cases e
    · subst hq; cases e
  · subst hq; cases e

theorem bound_some {x : Value} {i : Int} (e : bound x = some i) : ∃ k, x = .int k i := by
  unfold bound at e
  split at e
  · cases e; exact ⟨_, rfl⟩
  · cases e

section
variable {P : Program} {G : Nat} {ρ : Map} {h : H} {w : World} {N : Nat} {Γ : List (Nat × Value)} {a : Act} {E : Env} {n n' : Nat} {h' : H} {v : Value} {o : Oper}

theorem run_sliceBound (k : IntKind) {i : Int} (h0 : 0 ≤ i) {y : Nat} (h1 : i ≤ (y : Int)) (c : BoundsCode) : (Instr.sliceBound (.int k i) y c).run P w = .ok i.toNat w := by
  simp [Instr.sliceBound, asIntOf, h0, h1]

/-- An operand that may be left out, as it stands in the world. -/
theorem opt_bound (r : R G ρ h w) (l : Live ρ N Γ a) (x : Option Operand) (d i : Int) (e : (x.map (ev G Γ)).elim (some d) bound = some i) : (x.map a.eval = none ∧ i = d) ∨ ∃ k, x.map a.eval = some (.int k i) := by
  cases x with
  | none => left; simp at e; exact ⟨rfl, e.symm⟩
  | some y =>
    right
    simp at e
    obtain ⟨k, hk⟩ := bound_some e
    have hy := ev_sim r l y
    rw [hk] at hy
    exact ⟨k, by simp [hy.int_inv]⟩

theorem run_sliceBounds {len cap : Nat} {lo hi mx : Option Value} {l k : Int} {m : Nat} (hl : (lo = none ∧ l = 0) ∨ ∃ q, lo = some (.int q l)) (hk : (hi = none ∧ k = len) ∨ ∃ q, hi = some (.int q k)) (h0 : 0 ≤ l) (h1 : l ≤ k)
    (hm : (mx = none ∧ m = cap ∧ k ≤ (cap : Int)) ∨ ∃ q, mx = some (.int q m) ∧ hi.isSome = true ∧ k ≤ (m : Int) ∧ m ≤ cap) :
    (Instr.sliceBounds true len cap lo hi mx).run P w = .ok (l.toNat, k.toNat, m) w := by
  have hk0 : 0 ≤ k := by omega
  rcases hm with ⟨rfl, rfl, hkc⟩ | ⟨q, rfl, hs, hkm, hmc⟩
  · rcases hk with ⟨rfl, rfl⟩ | ⟨qk, rfl⟩
    · rcases hl with ⟨rfl, rfl⟩ | ⟨ql, rfl⟩
      · simp [Instr.sliceBounds]
      · have := run_sliceBound (P := P) (w := w) ql h0 (y := len) (by omega) .sliceB
        simp [Instr.sliceBounds, this]
    · have hb := run_sliceBound (P := P) (w := w) qk hk0 hkc .sliceAcap
      rcases hl with ⟨rfl, rfl⟩ | ⟨ql, rfl⟩
      · simp [Instr.sliceBounds, hb]
      · have := run_sliceBound (P := P) (w := w) ql h0 (y := k.toNat) (by omega) .sliceB
        simp [Instr.sliceBounds, hb, this]
  · have hb0 := run_sliceBound (P := P) (w := w) q (i := (m : Int)) (by omega) (y := cap) (by omega) .slice3Acap
    rcases hk with ⟨rfl, rfl⟩ | ⟨qk, rfl⟩
    · simp at hs
    · have hb := run_sliceBound (P := P) (w := w) qk hk0 (y := m) hkm .slice3B
      rcases hl with ⟨rfl, rfl⟩ | ⟨ql, rfl⟩
      · simp [Instr.sliceBounds, hb0, hb]
      · have := run_sliceBound (P := P) (w := w) ql h0 (y := k.toNat) (by omega) .slice3C
        simp [Instr.sliceBounds, hb0, hb, this]

theorem SL.cut {L : Loc} {o len cap : Nat} {a' : Addr} {cap' : Nat} (s : SL L o len cap a' cap') (size l k c m : Nat) (hl : l ≤ k) (hk : k ≤ len)
    (hm : (m = cap' ∧ ((cap = U + size ∧ c = cap) ∨ (cap < U ∧ c = cap - l))) ∨ (k ≤ m ∧ m ≤ len ∧ c = m - l ∧ m < U)) :
    SL L (o + l * size) (k - l) c (if m = l then a' else a'.add (l * size)) (m - l) := by
  have hle := s.le
  have hmc : m ≤ cap' := by rcases hm with ⟨h, _⟩ | ⟨_, h, _⟩ <;> omega
  refine ⟨fun hc => ?_, ?_, fun hne => ?_, fun sz hc => ?_⟩
  · rcases hm with ⟨rfl, ⟨h1, h2⟩ | ⟨h1, h2⟩⟩ | ⟨_, _, h, _⟩
    · omega
    · have := s.known h1; omega
    · omega
  · rcases hm with ⟨rfl, _⟩ | ⟨_, _, _, _⟩ <;> omega
  · rw [if_neg (by omega), s.at_ (by omega), addr_add, Nat.add_assoc]
  · rcases hm with ⟨rfl, ⟨h1, h2⟩ | ⟨h1, h2⟩⟩ | ⟨_, _, h, _⟩
    · have hs : sz = size := by omega
      subst hs
      have := s.lim sz h1
      rw [Nat.sub_mul]
      have : l * sz ≤ m * sz := Nat.mul_le_mul_right _ (by omega)
      omega
    · omega
    · omega

theorem SL.cutU {L : Loc} {o len size : Nat} {a' : Addr} {cap' : Nat} (s : SL L o len (U + size) a' cap') (l k : Nat) (hl : l ≤ k) (hk : k ≤ cap') :
    SL L (o + l * size) (k - l) (U + size) (if cap' = l then a' else a'.add (l * size)) (cap' - l) := by
  refine ⟨fun hc => by omega, by omega, fun hne => ?_, fun sz hc => ?_⟩
  · rw [if_neg (by omega), s.at_ (by omega), addr_add, Nat.add_assoc]
  · have hs : sz = size := by omega
    subst hs
    have := s.lim sz rfl
    rw [Nat.sub_mul]
    have : l * sz ≤ cap' * sz := Nat.mul_le_mul_right _ (by omega)
    omega

theorem opSlc_some {size : Nat} {x l h : Value} {n : Nat} {g : H} {v : Value} {n' : Nat} {g' : H} (e : opSlc size x l h n g = some (v, n', g')) :
    opSlice size x (some l) (some h) none n g = some (v, n', g') ∨
    ∃ b o len i j cs, x = .slice (some ⟨b, o, none⟩) len (U + size) ∧ bound l = some i ∧ bound h = some j ∧ 0 ≤ i ∧ i ≤ j ∧ size ≠ 0 ∧ n' = n ∧ g' = g ∧ g.get b = some ⟨cs, .grow⟩ ∧ o + j.toNat * size ≤ cs.length ∧
      v = .slice (some ⟨b, o + i.toNat * size, none⟩) (j - i).toNat (U + size) := by
  obtain ⟨q, hq⟩ : ∃ q, q = opSlc size x l h := ⟨_, rfl⟩
  rw [← hq] at e
  unfold opSlc at hq
  split at hq
  · split at hq
    · rename_i i j hi hj
      split at hq
      · rename_i hc
        split at hq
        · rename_i h0
          subst hq
          obtain ⟨r, n1, h1, e1, e2⟩ := bnd_some e
          obtain ⟨rfl, rfl, cs, hb, hle⟩ := room_some e1
          split at e2
          · rename_i hr
            obtain ⟨rfl, rfl, rfl⟩ := ret_some e2
            obtain ⟨_, rfl⟩ := hc
            exact .inr ⟨_, _, _, i, j, cs, rfl, hi, hj, h0.1, h0.2.1, h0.2.2, rfl, rfl, hb, hle hr, rfl⟩
          · cases e2
        · subst hq; cases e
      · subst hq; exact .inl e
    · subst hq; cases e
  · subst hq; exact .inl e

theorem opt_ite (c : Prop) [Decidable c] (x : Addr) (f : Addr → Addr) : (if c then some x else (some x).map f) = some (if c then x else f x) := by split <;> rfl

theorem sim_slice (r : R G ρ h w) (l : Live ρ N Γ a) {t : TypeId} {x : Operand} {lo hi mx : Option Operand} (ho : o.op = .slice t x lo hi mx) (e : aop P G E Γ o.op n h = some (v, n', h')) : Does P G o a w ρ h v h' := by
  rw [ho] at e
  simp only [aop] at e
  have hx := ev_sim r l x
  cases hu : P.underlying t with
  | none => simp only [hu] at e; cases e
  | some d =>
  cases d <;> simp only [hu] at e <;> try (cases e; done)
  rename_i el
  cases hi' : P.info? el with
  | none => simp only [hi'] at e; cases e
  | some inf =>
  simp only [hi'] at e
  have ways : opSlice inf.size (ev G Γ x) (lo.map (ev G Γ)) (hi.map (ev G Γ)) (mx.map (ev G Γ)) n h = some (v, n', h') ∨
      ∃ l0 h0 b o len i j cs, lo = some l0 ∧ hi = some h0 ∧ mx = none ∧ ev G Γ x = .slice (some ⟨b, o, none⟩) len (U + inf.size) ∧ bound (ev G Γ l0) = some i ∧ bound (ev G Γ h0) = some j ∧ 0 ≤ i ∧ i ≤ j ∧ inf.size ≠ 0 ∧ n' = n ∧ h' = h ∧ h.get b = some ⟨cs, .grow⟩ ∧ o + j.toNat * inf.size ≤ cs.length ∧
        v = .slice (some ⟨b, o + i.toNat * inf.size, none⟩) (j - i).toNat (U + inf.size) := by
    split at e
    · rename_i l0 h0
      rcases opSlc_some e with e | ⟨b, o, len, i, j, cs, h⟩
      · exact .inl e
      · exact .inr ⟨l0, h0, b, o, len, i, j, cs, rfl, rfl, rfl, h⟩
    · exact .inl e
  rcases ways with e | ⟨lo0, hi0, b, ob, len, lv, k, cs, rfl, rfl, rfl, hp, hl, hk, h0, h1, hz0, rfl, rfl, hb, hroom, rfl⟩
  case inr =>
    rw [hp] at hx
    obtain ⟨_, _, L, a', cap', hxe, hL, hx', hs⟩ := hx.slice_inv
    cases hxe
    have hl' := opt_bound r l (some lo0) 0 lv hl
    have hk' := opt_bound r l (some hi0) len k hk
    obtain ⟨_, hfits, _⟩ := r.blk b ⟨cs, .grow⟩ L hb (by simp [Blk.live]) hL
    have hlim := hs.lim inf.size rfl
    have hkc : k ≤ (cap' : Int) ∨ inf.size = 0 := by
      rcases Nat.eq_zero_or_pos inf.size with hz | hz
      · exact .inr hz
      · left
        have h2 : k.toNat * inf.size ≤ cap' * inf.size := by
          have : L.off + cs.length ≤ L.lim := hfits
          omega
        have := Nat.le_of_mul_le_mul_right h2 hz
        omega
    rcases hkc with hkc | hz
    · have hb' := run_sliceBounds (P := P) (w := w) (m := cap') hl' hk' h0 h1 (.inl ⟨rfl, rfl, hkc⟩)
      refine .same r (v' := .slice (if cap' = lv.toNat then some a' else (some a').map (·.add (lv.toNat * inf.size))) (k.toNat - lv.toNat) (cap' - lv.toNat)) (by
        simp only [Option.map_none, Option.map_some] at hb'
        simp [execOp, ho, Instr.sliceAt, run_underlying hu, Instr.slice, hx', hb', sizeOf, typeInfo, hi']) (VR.weak ?_)
      have hkl : (k - lv).toNat = k.toNat - lv.toNat := by omega
      rw [hkl, opt_ite]
      exact VR.slice b _ _ _ _ _ L hL (hs.cutU lv.toNat k.toNat (by omega) (by omega))
    · exact absurd hz hz0
  obtain ⟨rfl, rfl, p, len, cap, lv, k, hp, hl, hk, h0, h1, hm⟩ := opSlice_some e
  rw [hp] at hx
  have hl' := opt_bound r l lo 0 lv hl
  have hk' := opt_bound r l hi len k hk
  -- the slice itself, in the world
  have hrun : ∀ (pa : Option Addr) (cap' m : Nat), a.eval x = .slice pa len cap' → ((mx.map a.eval = none ∧ m = cap' ∧ k ≤ (cap' : Int)) ∨ ∃ q, mx.map a.eval = some (.int q m) ∧ (hi.map a.eval).isSome = true ∧ k ≤ (m : Int) ∧ m ≤ cap') →
      (execOp a.eval o).run P w = .ok (.value (.slice (if m = lv.toNat then pa else pa.map (·.add (lv.toNat * inf.size))) (k.toNat - lv.toNat) (m - lv.toNat))) w := by
    intro pa cap' m hxe hmm
    have hb := run_sliceBounds (P := P) (w := w) hl' hk' h0 h1 hmm
    simp [execOp, ho, Instr.sliceAt, run_underlying hu, Instr.slice, hxe, hb, sizeOf, typeInfo, hi']
  have hkl : (k - lv).toNat = k.toNat - lv.toNat := by omega
  rcases hm with ⟨hmx, hkle, hcut⟩ | ⟨mv, m, hmx, hmv, hhi, hkm, hml, hmb, hcut⟩
  · have hmn : mx.map a.eval = none := by cases mx <;> simp_all
    rcases hcut with ⟨b, ob, hpa, c, rfl, hc⟩ | ⟨hpa, rfl⟩
    · subst hpa
      obtain ⟨_, _, L, a', cap', hxe, hL, hx', hs⟩ := hx.slice_inv
      cases hxe
      have hle := hs.le
      refine .same r (hrun _ cap' cap' hx' (.inl ⟨hmn, rfl, by omega⟩)) (VR.weak ?_)
      have hcut := hs.cut inf.size lv.toNat k.toNat c cap' (by omega) (by omega) (.inl ⟨rfl, by
        rcases hc with ⟨_, h2, h3⟩ | ⟨_, h2, h3⟩ | ⟨m, hm, _⟩
        · exact .inl ⟨h2, h3⟩
        · exact .inr ⟨h2, h3⟩
        · cases hm⟩)
      rw [hkl]
      rw [opt_ite]
      exact VR.slice b _ _ c _ _ L hL hcut
    · subst hpa
      obtain ⟨rfl, rfl, hx'⟩ := hx.nilslice_inv
      have hk0 : k = 0 := by omega
      have hl0 : lv = 0 := by omega
      subst hk0 hl0
      refine .same r (hrun none 0 0 hx' (.inl ⟨hmn, rfl, by omega⟩)) ?_
      simp only [Int.toNat_zero, Nat.zero_mul, if_true, Nat.sub_self]
      exact VR.nilslice.weak
  · obtain ⟨mo, hmo, hmo'⟩ : ∃ mo, mx = some mo ∧ ev G Γ mo = mv := by
      cases mx with
      | none => simp at hmx
      | some mo => exact ⟨mo, rfl, by simpa using hmx⟩
    subst hmo
    obtain ⟨q, hq⟩ := bound_some hmv
    have hmr := ev_sim r l mo
    rw [hmo', hq] at hmr
    have hm0 : 0 ≤ m := by omega
    obtain ⟨mn, rfl⟩ := Int.eq_ofNat_of_zero_le hm0
    have hhi' : (hi.map a.eval).isSome = true := by cases hi <;> simp_all
    have hmx' : (some mo).map a.eval = some (.int q (mn : Int)) := by simp [hmr.int_inv]
    rcases hcut with ⟨b, ob, hpa, c, rfl, hc⟩ | ⟨hpa, rfl⟩
    · subst hpa
      obtain ⟨_, _, L, a', cap', hxe, hL, hx', hs⟩ := hx.slice_inv
      cases hxe
      have hle := hs.le
      refine .same r (hrun _ cap' mn hx' (.inr ⟨q, hmx', hhi', hkm, by omega⟩)) (VR.weak ?_)
      have hcut := hs.cut inf.size lv.toNat k.toNat c mn (by omega) (by omega) (.inr ⟨by omega, by omega, by
        rcases hc with ⟨h, _⟩ | ⟨h, _⟩ | ⟨m', hm', _, h⟩
        · cases h
        · cases h
        · cases hm'; omega, by unfold U; omega⟩)
      rw [hkl]
      rw [opt_ite]
      exact VR.slice b _ _ c _ _ L hL hcut
    · subst hpa
      obtain ⟨rfl, rfl, hx'⟩ := hx.nilslice_inv
      have hk0 : k = 0 := by omega
      have hl0 : lv = 0 := by omega
      have hmn0 : mn = 0 := by omega
      subst hk0 hl0 hmn0
      refine .same r (hrun none 0 0 hx' (.inr ⟨q, hmx', hhi', hkm, by omega⟩)) ?_
      simp only [Int.toNat_zero, Nat.zero_mul, if_true, Nat.sub_self]
      exact VR.nilslice.weak
end
end Go.Fw
end
section
namespace Go.Fw

section
variable {P : Program} {G : Nat} {ρ : Map} {h : H} {w : World} {N : Nat} {Γ : List (Nat × Value)} {a : Act} {E : Env} {n n' : Nat} {h' : H} {v : Value} {o : Oper}

/-! ### Structs, arrays, slices that are written out -/

theorem foldl_set (off : Nat) : ∀ (xs : List Value) (k : Nat) (arr : Array Value), off + k + xs.length ≤ arr.size →
    ((xs.zipIdx k).foldl (fun (cs : Array Value) (p : Value × Nat) => cs.setIfInBounds (off + p.2) p.1) arr).toList = over arr.toList (off + k) xs
  | [], k, arr, _ => by simp [over]
  | x :: xs, k, arr, hle => by
    have ih := foldl_set off xs (k + 1) (arr.setIfInBounds (off + k) x) (by simp at hle ⊢; omega)
    simp only [List.zipIdx_cons, List.foldl_cons]
    rw [ih]
    apply List.ext_getElem?
    intro i
    simp at hle
    rw [over_get (by simp; omega), over_get (by simp; omega)]
    simp only [Array.toList_setIfInBounds, List.getElem?_set, List.length_cons]
    by_cases h1 : i = off + k
    · subst h1
      rw [if_neg (by omega), if_pos rfl, if_pos (by simp; omega), if_pos (by omega)]
      simp
    · by_cases h2 : off + (k + 1) ≤ i ∧ i < off + (k + 1) + xs.length
      · rw [if_pos h2, if_pos (by omega)]
        rw [show i - (off + k) = (i - (off + (k + 1))) + 1 by omega]; simp
      · rw [if_neg h2, if_neg (fun e => h1 e.symm), if_neg (by omega)]

theorem fill_sim (place : Nat → Option (Nat × Nat)) (pl : Nat → Option (Nat × Nat × Bool)) (hpl : ∀ i off size ag, pl i = some (off, size, ag) → place i = some (off, size)) :
    ∀ (xs xs' : List (Nat × Value)) (ps : List (Nat × Nat × Bool × Value)) (cs cs2 : List Value) (arr : Array Value), placed pl xs = some ps → fillA cs ps = some cs2 →
      xs.map (·.1) = xs'.map (·.1) → WL ρ (xs.map (·.2)) (xs'.map (·.2)) → VL ρ cs arr.toList → ∃ arr2, Instr.fill place arr xs' = some arr2 ∧ VL ρ cs2 arr2.toList
  | [], xs', ps, cs, cs2, arr, hp, hf, h1, _, hv => by
    have : xs' = [] := by cases xs' <;> simp_all
    subst this
    simp only [placed, Option.some.injEq] at hp
    subst hp
    simp only [fillA, Option.some.injEq] at hf
    subst hf
    exact ⟨arr, rfl, hv⟩
  | (i, u) :: xs, xs', ps, cs, cs2, arr, hp, hf, h1, h2, hv => by
    cases xs' with
    | nil => simp at h1
    | cons y ys =>
    obtain ⟨i', u'⟩ := y
    simp only [List.map_cons, List.cons.injEq] at h1
    obtain ⟨rfl, h1⟩ := h1
    obtain ⟨_, _, he, hu, hus⟩ := h2.head
    simp only [List.map_cons, List.cons.injEq] at he
    obtain ⟨rfl, rfl⟩ := he
    simp only [placed] at hp
    split at hp
    · rename_i off size ag ps' hpi hps
      simp only [Option.some.injEq] at hp
      subst hp
      have hpi' := hpl _ _ _ _ hpi
      cases ag with
      | false =>
        simp only [fillA] at hf
        split at hf
        · rename_i hc
          simp only [Bool.and_eq_true, beq_iff_eq, decide_eq_true_eq] at hc
          obtain ⟨⟨ho1, rfl⟩, hlt⟩ := hc
          have hur := hu.strict ho1
          have hcy : u'.cells = #[u'] := cells_of_one (by rw [hur.one]; exact ho1)
          have hlt' : off < arr.size := by have := hv.1; simp at this; omega
          obtain ⟨arr2, g1, g2⟩ := fill_sim place pl hpl xs ys ps' _ cs2 (arr.setIfInBounds off u') hps hf h1 hus (by
            refine ⟨by simpa using hv.1, fun j z z' hz hz' => ?_⟩
            simp only [Array.toList_setIfInBounds, List.getElem?_set] at hz hz'
            by_cases hj : off = j
            · subst hj
              simp [hlt] at hz
              simp [hlt'] at hz'
              subst hz hz'
              exact hur
            · rw [if_neg hj] at hz hz'
              exact hv.2 j z z' hz hz')
          refine ⟨arr2, ?_, g2⟩
          have hnl : ¬ (arr.size < off + 1) := by omega
          simp [Instr.fill, hpi', hcy, hnl, g1]
        · cases hf
      | true =>
        simp only [fillA] at hf
        split at hf
        · rename_i xs0
          split at hf
          · rename_i hc
            simp only [Bool.and_eq_true, decide_eq_true_eq] at hc
            obtain ⟨rfl, hle⟩ := hc
            obtain ⟨ws, rfl, hws⟩ := hu.agg_inv
            have hsz : xs0.size = ws.size := by simpa using hws.1
            have hle' : off + ws.size ≤ arr.size := by have := hv.1; simp at this; omega
            have hfold := foldl_set off ws.toList 0 arr (by simpa using hle')
            simp only [Nat.add_zero] at hfold
            obtain ⟨arr2, g1, g2⟩ := fill_sim place pl hpl xs ys ps' _ cs2 ((ws.toList.zipIdx 0).foldl (fun (cs : Array Value) (p : Value × Nat) => cs.setIfInBounds (off + p.2) p.1) arr) hps hf h1 hus (by
              rw [hfold]
              refine ⟨by rw [over_length (by simp; omega), over_length (by simp; omega)]; exact hv.1, fun j z z' hz hz' => ?_⟩
              rw [over_get (by simp; omega)] at hz hz'
              simp only [Array.length_toList] at hz hz'
              by_cases hin : off ≤ j ∧ j < off + ws.size
              · rw [if_pos (by omega)] at hz; rw [if_pos hin] at hz'; exact hws.2 _ z z' hz hz'
              · rw [if_neg (by omega)] at hz; rw [if_neg hin] at hz'; exact hv.2 j z z' hz hz')
            refine ⟨arr2, ?_, g2⟩
            have hnl : ¬ (arr.size < off + ws.size) := by omega
            have hcond : (decide (ws.size ≠ xs0.size) || decide (off + ws.size > arr.size)) = false := by simp [hsz]; omega
            simp only [Instr.fill, hpi', cells_agg, hcond, Bool.false_eq_true, if_false]
            rw [← g1, ← Array.foldl_toList]
            simp
            intro hh
            rcases hh with hh | hh
            · exact absurd hsz.symm (of_decide_eq_true hh)
            · omega
          · cases hf
        · cases hf
    · cases hp

theorem opBuild_some {z : List Value} {ps : List (Nat × Nat × Bool × Value)} (e : opBuild z ps n h = some (v, n', h')) : n' = n ∧ h' = h ∧ ∃ cs, fillA z ps = some cs ∧ v = .agg cs.toArray := by
  unfold opBuild at e
  cases hf : fillA z ps with
  | none => simp only [hf] at e; cases e
  | some cs => simp only [hf] at e; obtain ⟨rfl, rfl, rfl⟩ := ret_some e; exact ⟨rfl, rfl, cs, rfl, rfl⟩

theorem run_places {fs : Array Field} (hall : fs.toList.all (fun f => (P.info? f.type).isSome) = true) :
    ∃ places : Array (Nat × Nat), (fs.mapM fun f => do pure (f.offset, ← sizeOf f.type) : Sem (Array (Nat × Nat))).run P w = .ok places w ∧ ∀ i off size ag, placeF P fs i = some (off, size, ag) → places[i]? = some (off, size) := by
  have key : ∀ (l : List Field) , l.all (fun f => (P.info? f.type).isSome) = true →
      (l.mapM fun f => do pure (f.offset, ← sizeOf f.type) : Sem (List (Nat × Nat))).run P w = .ok (l.map fun f => (f.offset, P.cellsOf f.type)) w := by
    intro l
    induction l with
    | nil => intro _; simp
    | cons f l ih =>
      intro hl
      simp only [List.all_cons, Bool.and_eq_true] at hl
      obtain ⟨i, hi⟩ := Option.isSome_iff_exists.1 hl.1
      have ih' := ih hl.2
      simp [List.mapM_cons, sizeOf, typeInfo, hi, Program.cellsOf] at ih' ⊢
      rw [ih']
      simp
  refine ⟨(fs.toList.map fun f => (f.offset, P.cellsOf f.type)).toArray, ?_, fun i off size ag hp => ?_⟩
  · rw [Array.mapM_eq_mapM_toList]
    rw [Sem.run_map, key _ hall]
    rfl
  · unfold placeF at hp
    cases hf : fs[i]? with
    | none => simp [hf] at hp
    | some f =>
      simp only [hf] at hp
      cases hi : P.info? f.type with
      | none => simp [hi] at hp
      | some inf =>
        simp only [hi, Option.some.injEq, Prod.mk.injEq] at hp
        simp [hf, Program.cellsOf, hi, hp.1, hp.2.1]

theorem parts_sim (r : R G ρ h w) (l : Live ρ N Γ a) (ps : Array (Nat × Operand)) :
    ((ps.toList.map fun p => (p.1, ev G Γ p.2)).map (·.1)) = ((ps.map fun p => (p.1, a.eval p.2)).toList.map (·.1)) ∧
    WL ρ ((ps.toList.map fun p => (p.1, ev G Γ p.2)).map (·.2)) ((ps.map fun p => (p.1, a.eval p.2)).toList.map (·.2)) := by
  refine ⟨by simp, ?_⟩
  have := WL.map r l (ps.toList.map (·.2))
  rw [List.map_map, List.map_map] at this
  rw [Array.toList_map, List.map_map, List.map_map]
  exact this

theorem sim_build (r : R G ρ h w) (l : Live ρ N Γ a) {t : TypeId} {ps : Array (Nat × Operand)} (ho : o.op = .build t ps) (e : aop P G E Γ o.op n h = some (v, n', h')) : Does P G o a w ρ h v h' := by
  rw [ho] at e
  simp only [aop] at e
  obtain ⟨hp1, hp2⟩ := parts_sim r l ps
  cases hu : P.underlying t with
  | none => simp only [hu] at e; cases e
  | some d =>
  cases hz : zeroL P t with
  | none => cases d <;> simp only [hu, hz] at e <;> cases e
  | some z =>
  obtain ⟨i, u, hi, hzu, hc, _, hv, _⟩ := zeroL_some (ρ := ρ) hz
  cases d <;> simp only [hu, hz] at e <;> try (cases e; done)
  · rename_i len el
    cases hie : P.info? el with
    | none => simp only [hie] at e; cases e
    | some inf =>
    simp only [hie] at e
    cases hpl : placed (fun i => some (i * inf.size, inf.size, aggT P el)) (ps.toList.map fun p => (p.1, ev G Γ p.2)) with
    | none => simp only [hpl] at e; cases e
    | some q =>
    simp only [hpl] at e
    obtain ⟨rfl, rfl, cs, hf, rfl⟩ := opBuild_some e
    obtain ⟨arr2, g1, g2⟩ := fill_sim (ρ := ρ) (fun i => some (i * inf.size, inf.size)) _ (fun i off size ag hh => by simp at hh; obtain ⟨rfl, rfl, rfl⟩ := hh; rfl) _ _ _ _ _ u.cells hpl hf hp1 hp2 (hc ▸ hv)
    refine .same r (v' := .agg arr2) ?_ (by have := g2.agg; simpa using this.weak)
    rw [Array.toList_map] at g1
    simp [execOp, ho, Instr.build, zeroValue, typeInfo, hi, hzu, run_underlying hu, sizeOf, hie, g1]
  · rename_i fs
    split at e
    · rename_i hall
      cases hpl : placed (placeF P fs) (ps.toList.map fun p => (p.1, ev G Γ p.2)) with
      | none => simp only [hpl] at e; cases e
      | some q =>
      simp only [hpl] at e
      obtain ⟨rfl, rfl, cs, hf, rfl⟩ := opBuild_some e
      obtain ⟨places, hpr, hpi⟩ := run_places (w := w) hall
      obtain ⟨arr2, g1, g2⟩ := fill_sim (ρ := ρ) (places[·]?) _ hpi _ _ _ _ _ u.cells hpl hf hp1 hp2 (hc ▸ hv)
      refine .same r (v' := .agg arr2) ?_ (by have := g2.agg; simpa using this.weak)
      rw [Array.toList_map] at g1
      simp at hpr
      simp [execOp, ho, Instr.build, zeroValue, typeInfo, hi, hzu, run_underlying hu, hpr, g1]
    · cases e

theorem rep_length (k : Nat) (z : List Value) : (rep k z).length = k * z.length := by
  induction k with
  | zero => simp [rep]
  | succ k ih =>
    simp only [rep, List.replicate_succ, List.flatten_cons, List.length_append] at ih ⊢
    rw [ih, Nat.succ_mul]; omega
theorem rep_get (k : Nat) (z : List Value) (i : Nat) (h : i < k * z.length) : (rep k z)[i]? = z[i % z.length]? := by
  induction k generalizing i with
  | zero => simp at h
  | succ k ih =>
    simp only [rep, List.replicate_succ, List.flatten_cons] at ih ⊢
    by_cases hi : i < z.length
    · rw [List.getElem?_append_left hi, Nat.mod_eq_of_lt hi]
    · rw [List.getElem?_append_right (by omega), ih _ (by rw [Nat.succ_mul] at h; omega)]
      rw [show i % z.length = (i - z.length) % z.length from Nat.mod_eq_sub_mod (by omega)]

theorem made_cells (z : Array Value) (k : Nat) : ((Array.range (k * z.size)).map (fun i => z[i % z.size]!)).toList = rep k z.toList := by
  apply List.ext_getElem?
  intro i
  by_cases hi : i < k * z.size
  · rw [rep_get _ _ _ (by simpa using hi)]
    have hz : 0 < z.size := by rcases Nat.eq_zero_or_pos z.size with h | h; · rw [h] at hi; simp at hi
                               · exact h
    have := Nat.mod_lt i hz
    simp [hi, this]
  · rw [List.getElem?_eq_none (by simp; omega), List.getElem?_eq_none (by rw [rep_length]; simp; omega)]

theorem VL.rep {z z' : List Value} (h : VL ρ z z') (k : Nat) : VL ρ (rep k z) (rep k z') := by
  induction k with
  | zero => simp [Fw.rep]; exact VL.nil ρ
  | succ k ih => simp only [Fw.rep, List.replicate_succ, List.flatten_cons] at ih ⊢; exact h.append ih

/-- A slice of a block that was just made. -/
theorem VR.made {b len : Nat} {L : Loc} (hb : ρ b = some L) (h0 : L.off = 0) {c : Nat} (hlc : len ≤ c) (hc : c < U) : VR ρ (.slice (some ⟨b, 0, none⟩) len c) (.slice (some ⟨L.blk, 0, none⟩) len c) :=
  .slice b 0 len c _ c L hb ⟨fun _ => rfl, hlc, fun _ => by rw [h0], fun s hs => by omega⟩

theorem opBuildSlice_some {k : Nat} {z : List Value} {ps : List (Nat × Nat × Bool × Value)} (e : opBuildSlice k z ps n h = some (v, n', h')) : ∃ cs b, fillA z ps = some cs ∧ new cs .own n h = some (b, n', h') ∧ v = .slice (some ⟨b, 0, none⟩) k k := by
  unfold opBuildSlice at e
  cases hf : fillA z ps with
  | none => simp only [hf] at e; cases e
  | some cs =>
    simp only [hf] at e
    obtain ⟨b, n1, h1, e1, e2⟩ := bnd_some e
    obtain ⟨rfl, rfl, rfl⟩ := ret_some e2
    exact ⟨cs, b, rfl, e1, rfl⟩

theorem sim_buildSlice (r : R G ρ h w) (l : Live ρ N Γ a) {t : TypeId} {k : Nat} {ps : Array (Nat × Operand)} (ho : o.op = .buildSlice t k ps) (e : aop P G E Γ o.op n h = some (v, n', h')) : Does P G o a w ρ h v h' := by
  rw [ho] at e
  simp only [aop] at e
  obtain ⟨hp1, hp2⟩ := parts_sim r l ps
  cases hu : P.underlying t with
  | none => simp only [hu] at e; cases e
  | some d =>
  cases d <;> simp only [hu] at e <;> try (cases e; done)
  rename_i el
  cases hie : P.info? el with
  | none => simp only [hie] at e; cases e
  | some inf =>
  cases hz : zeroL P el with
  | none => simp only [hie, hz] at e; cases e
  | some z =>
  simp only [hie, hz] at e
  obtain ⟨i, u, hi, hzu, hc, hzl, hv, _⟩ := zeroL_some (ρ := ρ) hz
  rw [hie] at hi
  cases hi
  split at e
  · rename_i hle
    cases hpl : placed (fun i => some (i * inf.size, inf.size, aggT P el)) (ps.toList.map fun p => (p.1, ev G Γ p.2)) with
    | none => simp only [hpl] at e; cases e
    | some q =>
    simp only [hpl] at e
    obtain ⟨cs, b, hf, hn, rfl⟩ := opBuildSlice_some e
    have hinit : VL ρ (rep k z) (rep k z).toArray.toList := by simpa using hv.rep k
    obtain ⟨arr2, g1, g2⟩ := fill_sim (ρ := ρ) (fun i => some (i * inf.size, inf.size)) _ (fun i off size ag hh => by simp at hh; obtain ⟨rfl, rfl, rfl⟩ := hh; rfl) _ _ _ _ _ (rep k z).toArray hpl hf hp1 hp2 hinit
    obtain ⟨rfl, hr, hx, _⟩ := r.new hn (.inl rfl) g2 (rest := []) (fun _ => rfl) el
    simp only [List.append_nil] at hr hx
    have hkU : k < U := by unfold U; omega
    refine ⟨_, _, _, .inl ?_, (VR.made (Map.add_same _ _ _) rfl (Nat.le_refl k) hkU).weak, hr, hx⟩
    have hmc : ∀ zz : Array Value, zz.toList = z → ((Array.range (k * inf.size)).map (fun i => zz[i % zz.size]!)) = (rep k z).toArray := by
      intro zz hzz
      have := made_cells zz k
      rw [hzz] at this
      have hs : zz.size = inf.size := by rw [← hzl, ← hzz]; simp
      rw [hs] at this ⊢
      exact Array.toList_inj.1 (by rw [this])
    have hc' : u.cells = z.toArray := by rw [← hc]
    rw [Array.toList_map] at g1
    by_cases h0 : k * inf.size = 0
    · have hrep : (rep k z).toArray = #[] := by
        have : (rep k z).length = 0 := by rw [rep_length, hzl, h0]
        simp [List.eq_nil_of_length_eq_zero this]
      rw [hrep] at g1
      have hr0 : Array.range 0 = #[] := rfl
      simp [execOp, ho, Instr.buildSlice, run_underlying hu, sizeOf, typeInfo, hie, h0, hr0, g1, newRow]
    · have hle2 : ¬ (16777216 < k * inf.size) := by omega
      have := hmc u.cells (by rw [hc])
      simp [execOp, ho, Instr.buildSlice, run_underlying hu, sizeOf, typeInfo, hie, hle2, h0, zeroValue, hzu, this, g1, newRow]
  · cases e
end
end Go.Fw
end
section
namespace Go.Fw

section
variable {P : Program} {G : Nat} {ρ : Map} {h : H} {w : World} {N : Nat} {Γ : List (Nat × Value)} {a : Act} {E : Env} {n n' : Nat} {h' : H} {v : Value} {o : Oper}

theorem opMake_some {bytes : Nat} {z : List Value} {l c : Value} (e : opMake bytes z l c n h = some (v, n', h')) :
    ∃ kl kc b, ∃ i j : Int, l = .int kl i ∧ c = .int kc j ∧ 0 ≤ i ∧ i ≤ j ∧ j ≤ 1099511627776 ∧ bytes * j.toNat ≤ 70368744177664 ∧ new (rep j.toNat z) .own n h = some (b, n', h') ∧ v = .slice (some ⟨b, 0, none⟩) i.toNat j.toNat := by
  obtain ⟨q, hq⟩ : ∃ q, q = opMake bytes z l c := ⟨_, rfl⟩
  rw [← hq] at e
  unfold opMake at hq
  split at hq
  · split at hq
    · rename_i hc
      subst hq
      obtain ⟨b, n1, h1, e1, e2⟩ := bnd_some e
      obtain ⟨rfl, rfl, rfl⟩ := ret_some e2
      exact ⟨_, _, b, _, _, rfl, rfl, hc.1, hc.2.1, hc.2.2.1, hc.2.2.2, e1, rfl⟩
    · subst hq; cases e
  · subst hq; cases e

theorem sim_makeSlice (r : R G ρ h w) (l : Live ρ N Γ a) {t : TypeId} {x y : Operand} (ho : o.op = .makeSlice t x y) (e : aop P G E Γ o.op n h = some (v, n', h')) : Does P G o a w ρ h v h' := by
  rw [ho] at e
  simp only [aop] at e
  have hx := ev_sim r l x
  have hy := ev_sim r l y
  cases hu : P.underlying t with
  | none => simp only [hu] at e; cases e
  | some d =>
  cases d <;> simp only [hu] at e <;> try (cases e; done)
  rename_i el
  cases hie : P.info? el with
  | none => simp only [hie] at e; cases e
  | some inf =>
  cases hz : zeroL P el with
  | none => simp only [hie, hz] at e; cases e
  | some z =>
  simp only [hie, hz] at e
  obtain ⟨i, u, hi, hzu, hc, hzl, hv, _⟩ := zeroL_some (ρ := ρ) hz
  rw [hie] at hi
  cases hi
  obtain ⟨kl, kc, b, i, j, hxe, hye, h0, h1, h2, h3, hn, rfl⟩ := opMake_some e
  rw [hxe] at hx
  rw [hye] at hy
  obtain ⟨rfl, hr, hx', _⟩ := r.new hn (.inl rfl) (hv.rep j.toNat) (rest := []) (fun _ => rfl) el
  simp only [List.append_nil] at hr hx'
  have hjU : j.toNat < U := by unfold U; omega
  refine ⟨_, _, _, .inl ?_, (VR.made (Map.add_same _ _ _) rfl (by omega : i.toNat ≤ j.toNat) hjU).weak, hr, hx'⟩
  have hb : (inf.bytes : Int) * j ≤ 281474976710656 := by
    have : (inf.bytes : Int) * j = ((inf.bytes * j.toNat : Nat) : Int) := by
      rw [Int.natCast_mul]; congr 1; omega
    rw [this]; omega
  have hrun := run_make (P := P) w t el inf u hu hie hzu kl kc i j h0 h1 hb (by omega)
  have hm : madeCells u.cells (j.toNat * inf.size) = (rep j.toNat z).toArray := by
    have := made_cells u.cells j.toNat
    rw [hc] at this
    have hs : u.cells.size = inf.size := by rw [← hzl, ← hc]; simp
    rw [hs] at this
    apply Array.toList_inj.1
    rw [← this]
    unfold madeCells
    rw [hs]
  rw [hm] at hrun
  simp [execOp, ho, hx.int_inv, hy.int_inv, hrun]

/-! ### append -/

/-- The cells of a slice, in the world. -/
theorem cells_sim (r : R G ρ h w) {size : Nat} {p : Option Addr} {k c : Nat} {x' : Value} (hx : VW ρ (.slice p k c) x') {cs : List Value} (e : cellsOf size (.slice p k c) n h = some (cs, n', h')) :
    n' = n ∧ h' = h ∧ cs.length = k * size ∧ ∃ cs', VL ρ cs cs' ∧ (∀ w' : World, w'.heap = w.heap → (Builtin.firstCells size k x').run P w' = .ok cs'.toArray w') ∧
      (k ≠ 0 → ∃ b o L, p = some ⟨b, o, none⟩ ∧ ρ b = some L ∧ ∀ j u, cs'[j]? = some u → w.cell? ⟨L.blk, L.off + o + j, none⟩ = some u) := by
  cases p with
  | none =>
    obtain ⟨rfl, rfl, rfl⟩ := hx.nilslice_inv
    simp only [cellsOf] at e
    obtain ⟨rfl, rfl, rfl⟩ := ret_some e
    exact ⟨rfl, rfl, by simp, [], VL.nil ρ, fun w' _ => by simp [Builtin.firstCells], fun h => absurd rfl h⟩
  | some p =>
    obtain ⟨b, ob, L, a', c', rfl, hL, rfl, hs⟩ := hx.slice_inv
    simp only [cellsOf] at e
    by_cases hk : k = 0
    · subst hk
      simp only [if_true] at e
      obtain ⟨rfl, rfl, rfl⟩ := ret_some e
      refine ⟨rfl, rfl, by simp, [], VL.nil ρ, fun w' _ => ?_, fun h => absurd rfl h⟩
      have := run_firstCells_some (P := P) w' size 0 a' 0 c' [] (by simp) (by simp)
      simpa using this
    · simp only [hk, if_false] at e
      obtain ⟨rfl, rfl, hl, L', hL', cs', hv, hc⟩ := r.rdN e
      rw [hL] at hL'
      cases hL'
      have hc0 : c' ≠ 0 := by have := hs.le; omega
      have ha := hs.at_ hc0
      subst ha
      refine ⟨rfl, rfl, hl, cs', hv, fun w' hw => ?_, fun _ => ⟨b, ob, L, rfl, hL, hc⟩⟩
      exact run_firstCells_some (P := P) w' size k _ k c' cs' (by rw [← hv.1]; exact hl) (fun j u hj => by
        rw [addr_add]
        have := hc j u hj
        unfold World.cell? at this ⊢
        rw [hw]; exact this)

theorem run_app_in {t ut ty el eu : TypeId} {inf : TypeInfo} (ht : P.underlying t = some (.slice el)) (hu : P.underlying ut = some (.slice eu)) (hi : P.info? el = some inf) {b ob len cap k c : Nat} {x : Option Addr} {news : List Value}
    (hf : (Builtin.firstCells inf.size k (.slice x k c)).run P w = .ok news.toArray w) (hroom : len + k ≤ cap)
    (hc : ∀ j, j < news.length → (w.cell? ⟨b, ob + len * inf.size + j, none⟩).isSome = true) (hz : ∀ j, w.frozen? ⟨b, j, none⟩ = false) (h1 : ∀ u ∈ news, u.oneCell' = true) :
    (Builtin.append_ #[t, ut] ty #[.slice (some ⟨b, ob, none⟩) len cap, .slice x k c]).run P w = .ok (.slice (some ⟨b, ob, none⟩) (len + k) cap) (w.setCells b (ob + len * inf.size) news) := by
  have hst := run_storeCells_cells (P := P) b (ob + len * inf.size) news 0 w (by simpa using hc) (fun j _ => hz _) h1
  simp only [Nat.add_zero] at hst
  simp [Builtin.append_, run_underlying ht, run_underlying hu, sizeOf, typeInfo, hi, Builtin.lenOf, hroom, hf, addr_add, hst]

theorem run_app_none {t ut ty el eu : TypeId} {inf : TypeInfo} (ht : P.underlying t = some (.slice el)) (hu : P.underlying ut = some (.slice eu)) (hi : P.info? el = some inf) {s : Option Addr} {len cap c : Nat} {x : Option Addr}
    (hf : (Builtin.firstCells inf.size 0 (.slice x 0 c)).run P w = .ok #[] w) (hle : len ≤ cap) :
    (Builtin.append_ #[t, ut] ty #[.slice s len cap, .slice x 0 c]).run P w = .ok (.slice s len cap) w := by
  cases s with
  | none => simp [Builtin.append_, run_underlying ht, run_underlying hu, sizeOf, typeInfo, hi, Builtin.lenOf, hle, hf]
  | some s => simp [Builtin.append_, run_underlying ht, run_underlying hu, sizeOf, typeInfo, hi, Builtin.lenOf, hle, hf, storeCells]

theorem run_app_grow {t ut ty el eu : TypeId} {inf : TypeInfo} {z : Value} (ht : P.underlying t = some (.slice el)) (hu : P.underlying ut = some (.slice eu)) (hi : P.info? el = some inf) (hz : inf.zero = some z)
    {s x : Option Addr} {len cap k c : Nat} {olds news : List Value} (hfo : (Builtin.firstCells inf.size len (.slice s len cap)).run P w.drew = .ok olds.toArray w.drew) (hf : (Builtin.firstCells inf.size k (.slice x k c)).run P w.drew = .ok news.toArray w.drew)
    (hg : cap < len + k) (h40 : len + k ≤ 1099511627776) (hb : (len + k) * inf.bytes ≤ 70368744177664) :
    (Builtin.append_ #[t, ut] ty #[.slice s len cap, .slice x k c]).run P w = .ok (.slice (some ⟨w.heap.size, 0, none⟩) (len + k) (grownCap w (len + k) cap el))
      (w.drew.alloc (.cells (olds ++ news ++ (Builtin.zeroCells z.cells (grownCap w (len + k) cap el - (len + k))).toList).toArray el)) := by
  have hn : ¬ (len + k ≤ cap) := by omega
  have h63' : ¬ (9223372036854775807 < ((len : Int) + (k : Int))) := by omega
  have hfit := growslice_fits (need := len + k) (old := cap) (bytes := inf.bytes) hg (by omega)
  have h48' : ¬ (281474976710656 < Builtin.nextslicecap (len + k) cap * inf.bytes) := by omega
  simp [Builtin.append_, run_underlying ht, run_underlying hu, sizeOf, typeInfo, zeroValue, hi, hz, Builtin.lenOf, hn, h63', h48', Question.forced, hf, hfo, newRow, grownCap]
  congr 2
  apply Array.toList_inj.1
  simp

theorem does_append {c : Call} (ho : o.op = .call c) (hc : c.callee = .builtin .append) {t ut : TypeId} {s x : Operand} (hta : c.argTypes = #[t, ut]) (hxa : c.args = #[s, x]) {v' : Value} {w' : World}
    (hr : (Builtin.append_ #[t, ut] o.type #[a.eval s, a.eval x]).run P w = .ok v' w') : (execOp a.eval o).run P w = .ok (.value v') w' := by
  simp [execOp, ho, resolve, hc, hta, hxa, invoke, builtin, hr]

/-- What an append comes to, in the three cases. -/
theorem opAppend_some {size bytes : Nat} {s x : Value} (e : opAppend size bytes s x n h = some (v, n', h')) : ∃ p len cap q k c, s = .slice p len cap ∧ x = .slice q k c ∧
    ((k = 0 ∧ n' = n ∧ h' = h ∧ ((p = none ∧ v = .slice none 0 0) ∨ ∃ b ob, p = some ⟨b, ob, none⟩ ∧ v = s)) ∨
     (k ≠ 0 ∧ len + k ≤ 1099511627776 ∧ (len + k) * bytes ≤ 70368744177664 ∧ ∃ news, cellsOf size x n h = some (news, n, h) ∧
       ((cap = U + size ∧ ∃ a0 olds b n1 h1, p = some a0 ∧ cellsOf size s n h = some (olds, n, h) ∧ kill a0.block n h = some ((), n1, h1) ∧ new (olds ++ news) .grow n1 h1 = some (b, n', h') ∧ v = .slice (some ⟨b, 0, none⟩) (len + k) (U + size)) ∨
        (cap ≠ U + size ∧ cap < len + k ∧ ∃ olds b, cellsOf size s n h = some (olds, n, h) ∧ new (olds ++ news) .grow n h = some (b, n', h') ∧ v = .slice (some ⟨b, 0, none⟩) (len + k) (U + size)) ∨
        (len + k ≤ cap ∧ cap < U ∧ ∃ b ob, p = some ⟨b, ob, none⟩ ∧ wrN b (ob + len * size) news n h = some ((), n', h') ∧ v = .slice (some ⟨b, ob, none⟩) (len + k) cap)))) := by
  have hcells : ∀ {y : Value} {cs : List Value} {n1 : Nat} {h1 : H}, cellsOf size y n h = some (cs, n1, h1) → n1 = n ∧ h1 = h := by
    intro y cs n1 h1 e
    obtain ⟨q, hq⟩ : ∃ q, q = cellsOf size y := ⟨_, rfl⟩
    rw [← hq] at e
    unfold cellsOf at hq
    split at hq
    · subst hq; obtain ⟨_, rfl, rfl⟩ := ret_some e; exact ⟨rfl, rfl⟩
    · split at hq
      · subst hq; obtain ⟨_, rfl, rfl⟩ := ret_some e; exact ⟨rfl, rfl⟩
      · subst hq; obtain ⟨rfl, rfl, _⟩ := rdN_some e; exact ⟨rfl, rfl⟩
    · subst hq; cases e
  obtain ⟨q, hq⟩ : ∃ q, q = opAppend size bytes s x := ⟨_, rfl⟩
  rw [← hq] at e
  unfold opAppend at hq
  split at hq
  · rename_i p len cap q' k c
    refine ⟨p, len, cap, q', k, c, rfl, rfl, ?_⟩
    split at hq
    · rename_i hk
      left
      split at hq
      · split at hq
        · subst hq; obtain ⟨rfl, rfl, rfl⟩ := ret_some e; exact ⟨hk, rfl, rfl, .inl ⟨rfl, rfl⟩⟩
        · subst hq; cases e
      · split at hq
        · subst hq; obtain ⟨rfl, rfl, rfl⟩ := ret_some e; exact ⟨hk, rfl, rfl, .inr ⟨_, _, rfl, rfl⟩⟩
        · subst hq; cases e
      · subst hq; cases e
    · rename_i hk
      split at hq
      · rename_i hb
        right
        refine ⟨hk, hb.1, hb.2, ?_⟩
        subst hq
        obtain ⟨news, n1, h1, e1, e2⟩ := bnd_some e
        obtain ⟨rfl, rfl⟩ := hcells e1
        refine ⟨news, e1, ?_⟩
        obtain ⟨q2, hq2⟩ : ∃ q2, q2 = (if cap = U + size then
          (match p with
          | some ⟨b, _, _⟩ => bnd (cellsOf size (.slice p len cap)) fun olds => bnd (kill b) fun _ => bnd (new (olds ++ news) .grow) fun c => ret (.slice (some ⟨c, 0, none⟩) (len + k) (U + size))
          | none => fail)
        else if cap < len + k then bnd (cellsOf size (.slice p len cap)) fun olds => bnd (new (olds ++ news) .grow) fun c => ret (.slice (some ⟨c, 0, none⟩) (len + k) (U + size))
        else if cap < U then
          (match p with
          | some ⟨b, o, none⟩ => bnd (wrN b (o + len * size) news) fun _ => ret (.slice (some ⟨b, o, none⟩) (len + k) cap)
          | _ => fail)
        else fail : M Value) := ⟨_, rfl⟩
        have e2' : q2 n1 h1 = some (v, n', h') := hq2 ▸ e2
        split at hq2
        · rename_i hcap
          left
          refine ⟨hcap, ?_⟩
          split at hq2
          · rename_i b ob sp
            subst hq2
            obtain ⟨olds, n2, h2, e3, e4⟩ := bnd_some e2'
            obtain ⟨rfl, rfl⟩ := hcells e3
            obtain ⟨u, n3, h3, e5, e6⟩ := bnd_some e4
            obtain ⟨c', n4, h4, e7, e8⟩ := bnd_some e6
            obtain ⟨rfl, rfl, rfl⟩ := ret_some e8
            exact ⟨_, olds, c', n3, h3, rfl, e3, e5, e7, rfl⟩
          · subst hq2; cases e2'
        · rename_i hcap
          split at hq2
          · rename_i hlt
            right; left
            subst hq2
            obtain ⟨olds, n2, h2, e3, e4⟩ := bnd_some e2'
            obtain ⟨rfl, rfl⟩ := hcells e3
            obtain ⟨c', n4, h4, e7, e8⟩ := bnd_some e4
            obtain ⟨rfl, rfl, rfl⟩ := ret_some e8
            exact ⟨hcap, hlt, olds, c', e3, e7, rfl⟩
          · rename_i hlt
            split at hq2
            · rename_i hU
              right; right
              split at hq2
              · subst hq2
                obtain ⟨u, n2, h2, e3, e4⟩ := bnd_some e2'
                obtain ⟨rfl, rfl, rfl⟩ := ret_some e4
                exact ⟨by omega, hU, _, _, rfl, e3, rfl⟩
              · subst hq2; cases e2'
            · subst hq2; cases e2'
      · subst hq; cases e
  · subst hq; cases e

theorem cellsOf_same {size : Nat} {y : Value} {cs : List Value} {n1 : Nat} {h1 : H} (e : cellsOf size y n h = some (cs, n1, h1)) : n1 = n ∧ h1 = h := by
  obtain ⟨q, hq⟩ : ∃ q, q = cellsOf size y := ⟨_, rfl⟩
  rw [← hq] at e
  unfold cellsOf at hq
  split at hq
  · subst hq; obtain ⟨_, rfl, rfl⟩ := ret_some e; exact ⟨rfl, rfl⟩
  · split at hq
    · subst hq; obtain ⟨_, rfl, rfl⟩ := ret_some e; exact ⟨rfl, rfl⟩
    · subst hq; obtain ⟨rfl, rfl, _⟩ := rdN_some e; exact ⟨rfl, rfl⟩
  · subst hq; cases e

/-- In place, or not. -/
theorem opApp_some {size bytes : Nat} {s x : Value} (e : opApp size bytes s x n h = some (v, n', h')) : opAppend size bytes s x n h = some (v, n', h') ∨
    ∃ b ob len q k c cs news, s = .slice (some ⟨b, ob, none⟩) len (U + size) ∧ x = .slice q k c ∧ k ≠ 0 ∧ len + k ≤ 1099511627776 ∧ (len + k) * bytes ≤ 70368744177664 ∧ h.get b = some ⟨cs, .grow⟩ ∧ ob + (len + k) * size ≤ cs.length ∧
      cellsOf size x n h = some (news, n, h) ∧ wrN b (ob + len * size) news n h = some ((), n', h') ∧ v = .slice (some ⟨b, ob, none⟩) (len + k) (U + size) := by
  obtain ⟨r, n1, h1, e1, e2⟩ := bnd_some e
  obtain ⟨q, hq⟩ : ∃ q, q = roomy size s x := ⟨_, rfl⟩
  rw [← hq] at e1
  unfold roomy at hq
  split at hq
  · rename_i b ob len cap x' k c
    split at hq
    · rename_i hc
      subst hq
      obtain ⟨rfl, rfl, cs, hb, hle⟩ := room_some e1
      split at e2
      · rename_i hr
        obtain ⟨q, hq⟩ : ∃ q, q = opAppIn size bytes (.slice (some ⟨b, ob, none⟩) len cap) (.slice x' k c) := ⟨_, rfl⟩
        rw [← hq] at e2
        unfold opAppIn at hq
        simp only at hq
        split at hq
        · rename_i h40
          subst hq
          obtain ⟨news, n2, h2, e3, e4⟩ := bnd_some e2
          obtain ⟨rfl, rfl⟩ := cellsOf_same e3
          obtain ⟨u, n3, h3, e5, e6⟩ := bnd_some e4
          obtain ⟨rfl, rfl, rfl⟩ := ret_some e6
          obtain ⟨rfl, hk⟩ := hc
          exact .inr ⟨b, ob, len, x', k, c, cs, news, rfl, rfl, hk, h40.1, h40.2, hb, hle hr, e3, e5, rfl⟩
        · subst hq; cases e2
      · exact .inl e2
    · subst hq
      obtain ⟨rfl, rfl, rfl⟩ := ret_some e1
      exact .inl e2
  · subst hq
    obtain ⟨rfl, rfl, rfl⟩ := ret_some e1
    exact .inl e2

theorem firstCells_zero (size : Nat) (x : Option Addr) (c : Nat) : (Builtin.firstCells size 0 (.slice x 0 c)).run P w = .ok #[] w := by
  cases x with
  | none => simp [Builtin.firstCells]
  | some x =>
    have := run_firstCells_some (P := P) w size 0 x 0 c [] (by simp) (by simp)
    simpa using this

theorem VW.slice_any {p : Option Addr} {len cap : Nat} {s' : Value} (h : VW ρ (.slice p len cap) s') : ∃ p' cap', s' = .slice p' len cap' ∧ len ≤ cap' ∧ (cap < U → cap' = cap) := by
  cases p with
  | none => obtain ⟨rfl, rfl, h2⟩ := h.nilslice_inv; exact ⟨none, 0, h2, Nat.le_refl _, fun _ => rfl⟩
  | some p => obtain ⟨_, _, L, a', c', _, _, h2, hs⟩ := h.slice_inv; exact ⟨_, _, h2, hs.le, hs.known⟩

/-- The append that makes a new row. -/
theorem does_grow (r : R G ρ h w) {c : Call} (ho : o.op = .call c) (hc : c.callee = .builtin .append) {t ut el eu : TypeId} {inf : TypeInfo} {z : List Value} (hu : P.underlying t = some (.slice el)) (hut : P.underlying ut = some (.slice eu))
    (hie : P.info? el = some inf) (hz : zeroL P el = some z) {s x : Operand} (hta : c.argTypes = #[t, ut]) (hxa : c.args = #[s, x]) {p' q' : Option Addr} {len cap' k c' : Nat} (hs' : a.eval s = .slice p' len cap') (hx' : a.eval x = .slice q' k c')
    (hg : cap' < len + k) (h40 : len + k ≤ 1099511627776) (hb : (len + k) * inf.bytes ≤ 70368744177664) {olds news olds' news' : List Value} (hvo : VL ρ olds olds') (hvn : VL ρ news news') (hlo : olds.length = len * inf.size) (hln : news.length = k * inf.size)
    (hfo : ∀ w' : World, w'.heap = w.heap → (Builtin.firstCells inf.size len (a.eval s)).run P w' = .ok olds'.toArray w') (hfn : ∀ w' : World, w'.heap = w.heap → (Builtin.firstCells inf.size k (a.eval x)).run P w' = .ok news'.toArray w')
    {h1 : H} {n1 b : Nat} (r1 : R G ρ h1 w) (x1 : Ext ρ h w ρ h1 w) (hn : new (olds ++ news) .grow n1 h1 = some (b, n', h')) : Does P G o a w ρ h (.slice (some ⟨b, 0, none⟩) (len + k) (U + inf.size)) h' := by
  obtain ⟨i, u, hi, hzu, hcz, hzl, _, _⟩ := zeroL_some (ρ := ρ) hz
  rw [hie] at hi
  cases hi
  have hrun := run_app_grow (P := P) (w := w) (ty := o.type) (s := p') (x := q') (len := len) (cap := cap') (k := k) (c := c') hu hut hie hzu (by rw [← hs']; exact hfo w.drew rfl) (by rw [← hx']; exact hfn w.drew rfl) hg h40 hb
  obtain ⟨rfl, hr, hx2, _⟩ := r1.drew.new hn (.inr rfl) (hvo.append hvn) (rest := (Builtin.zeroCells u.cells (grownCap w (len + k) cap' el - (len + k))).toList) (fun h => by cases h) el
  have hlen : (olds' ++ news').length = (len + k) * inf.size := by rw [← (hvo.append hvn).1, List.length_append, hlo, hln, Nat.add_mul]
  have hge := grownCap_ge w (len + k) cap' el
  have hus : u.cells.size = inf.size := by rw [← hzl, ← hcz]; simp
  have hrest : (Builtin.zeroCells u.cells (grownCap w (len + k) cap' el - (len + k))).toList.length = (grownCap w (len + k) cap' el - (len + k)) * inf.size := by
    have := size_zeroCells u.cells (grownCap w (len + k) cap' el - (len + k))
    rw [hus] at this
    simpa using this
  refine ⟨_, _, _, .inl (does_append ho hc hta hxa (by rw [hs', hx']; exact hrun)), VR.weak (.slice _ 0 _ _ _ _ _ (Map.add_same _ _ _) ⟨fun hlt => by unfold U at hlt; omega, hge, fun _ => rfl, fun sz hsz => ?_⟩), hr, x1.trans ((Ext.drew _ _ _).trans hx2)⟩
  have : sz = inf.size := by omega
  subst this
  simp only [World.size_drew]
  rw [hlen, hrest]
  simp only [Nat.add_zero, Nat.zero_add]
  rw [← Nat.add_mul]
  congr 1
  omega

theorem opAppZ_some {size bytes : Nat} {z : List Value} {s x : Value} (e : opAppZ size bytes z s x n h = some (v, n', h')) :
    ∃ k : Nat, ∃ b, s = .slice none 0 0 ∧ x = .int .i64 k ∧ 0 < k ∧ k ≤ 1099511627776 ∧ k * bytes ≤ 70368744177664 ∧ new (rep k z) .grow n h = some (b, n', h') ∧ v = .slice (some ⟨b, 0, none⟩) k (U + size) := by
  obtain ⟨q, hq⟩ : ∃ q, q = opAppZ size bytes z s x := ⟨_, rfl⟩
  rw [← hq] at e
  unfold opAppZ at hq
  split at hq
  · rename_i m
    split at hq
    · rename_i hc
      subst hq
      obtain ⟨b, n1, h1, e1, e2⟩ := bnd_some e
      obtain ⟨rfl, rfl, rfl⟩ := ret_some e2
      refine ⟨m.toNat, b, rfl, ?_, by omega, by omega, hc.2.2, e1, rfl⟩
      congr 1
      omega
    · subst hq; cases e
  · subst hq; cases e

theorem run_app_zero {t ut ty el : TypeId} {kd : IntKind} {inf : TypeInfo} {z : Value} (ht : P.underlying t = some (.slice el)) (hu : P.underlying ut = some (.int kd)) (hi : P.info? el = some inf) (hz : inf.zero = some z)
    {k : Nat} (h0 : 0 < k) (h40 : k ≤ 1099511627776) (hb : k * inf.bytes ≤ 70368744177664) (hs : inf.size ≠ 0) :
    (Builtin.append_ #[t, ut] ty #[.slice none 0 0, .int .i64 k]).run P w = .ok (.slice (some ⟨w.heap.size, 0, none⟩) k (grownCap w k 0 el))
      (w.drew.alloc (.cells ((Builtin.zeroCells z.cells k).toList ++ (Builtin.zeroCells z.cells (grownCap w k 0 el - k)).toList).toArray el)) := by
  have hk : ¬ (k ≤ 0) := by omega
  have hw : IntKind.i64.wrap (k : Int) = (k : Int) := by
    have h1 : IntKind.i64.signed = true := rfl
    have h2 : IntKind.i64.bits = 64 := rfl
    unfold IntKind.wrap
    rw [h1, h2]
    show (if (true && decide ((k : Int) % (2 ^ 64 : Int) ≥ (2 ^ (64 - 1) : Int))) = true then (k : Int) % (2 ^ 64 : Int) - (2 ^ 64 : Int) else (k : Int) % (2 ^ 64 : Int)) = (k : Int)
    rw [show (2 ^ 64 : Int) = 18446744073709551616 by rfl, show (2 ^ (64 - 1) : Int) = 9223372036854775808 by rfl]
    have : (k : Int) % 18446744073709551616 = k := Int.emod_eq_of_lt (by omega) (by omega)
    rw [this, if_neg (by simp; omega)]
  have hkb : (k : Int) * (inf.bytes : Int) ≤ 281474976710656 := by
    have : (k : Int) * (inf.bytes : Int) = ((k * inf.bytes : Nat) : Int) := by rw [Int.natCast_mul]
    omega
  have hkb' : ¬ (281474976710656 < (k : Int) * (inf.bytes : Int)) := by omega
  have h63' : ¬ (9223372036854775807 < (k : Int)) := by omega
  have hfit := growslice_fits (need := k) (old := 0) (bytes := inf.bytes) (by omega) (by omega)
  have h48' : ¬ (281474976710656 < Builtin.nextslicecap k 0 * inf.bytes) := by omega
  have hn0 : ¬ ((k : Int) < 0) := by omega
  have hk0 : k ≠ 0 := by omega
  have hai : asInt (Value.int .i64 (k : Int)) = pure (k : Int) := rfl
  have hmax : max (k : Int) 0 = k := by omega
  have htn : (k : Int).toNat = k := rfl
  simp [Builtin.append_, run_underlying ht, run_underlying hu, sizeOf, typeInfo, zeroValue, hi, hz, hw, hn0, hkb', hk0, hs, hk, h63', h48', Question.forced, newRow, grownCap, Builtin.firstCells, hai, hmax, htn]
  rw [if_neg (Nat.mul_ne_zero hk0 hs)]
  congr 3
  apply Array.toList_inj.1
  simp

theorem sim_append (r : R G ρ h w) (l : Live ρ N Γ a) {c : Call} (ho : o.op = .call c) (hc : c.callee = .builtin .append) (e : aop P G E Γ o.op n h = some (v, n', h')) : Does P G o a w ρ h v h' := by
  rw [ho] at e
  simp only [aop, hc] at e
  cases hts : c.argTypes.toList with
  | nil => simp only [hts] at e; cases e
  | cons t ts =>
  cases ts with
  | nil => simp only [hts] at e; cases e
  | cons ut ts =>
  cases ts with
  | cons _ _ => simp only [hts] at e; cases e
  | nil =>
  cases hxs : c.args.toList with
  | nil => simp only [hts, hxs] at e; cases e
  | cons s xs =>
  cases xs with
  | nil => simp only [hts, hxs] at e; cases e
  | cons x xs =>
  cases xs with
  | cons _ _ => simp only [hts, hxs] at e; cases e
  | nil =>
  simp only [hts, hxs] at e
  have hta : c.argTypes = #[t, ut] := by rw [← Array.toArray_toList (xs := c.argTypes), hts]
  have hxa : c.args = #[s, x] := by rw [← Array.toArray_toList (xs := c.args), hxs]
  have hs := ev_sim r l s
  have hx := ev_sim r l x
  cases hu : P.underlying t with
  | none => simp only [hu] at e; cases e
  | some d =>
  cases hut : P.underlying ut with
  | none => cases d <;> simp only [hu, hut] at e <;> cases e
  | some du =>
  cases d <;> (try (simp only [hu, hut] at e; cases e; done))
  cases du <;> (try (simp only [hu, hut] at e; cases e; done))
  case slice.int el ik =>
    simp only [hu, hut] at e
    cases hie : P.info? el with
    | none => simp only [hie] at e; cases e
    | some inf =>
    cases hz : zeroL P el with
    | none => simp only [hie, hz] at e; cases e
    | some z =>
    simp only [hie, hz] at e
    split at e
    · cases e
    · rename_i hsz
      obtain ⟨k, b, hse, hxe, h0, h40, hb, hn, rfl⟩ := opAppZ_some e
      rw [hse] at hs
      rw [hxe] at hx
      obtain ⟨_, _, hs'⟩ := hs.nilslice_inv
      have hx' := hx.int_inv
      obtain ⟨i, u, hi, hzu, hcz, hzl, hzv, _⟩ := zeroL_some (ρ := ρ) hz
      rw [hie] at hi
      cases hi
      have hrun := run_app_zero (P := P) (w := w) (ty := o.type) hu hut hie hzu h0 h40 hb hsz
      have hmade : (Builtin.zeroCells u.cells k).toList = rep k z := by rw [← hcz]; exact made_cells u.cells k
      rw [hmade] at hrun
      obtain ⟨rfl, hr, hx2, _⟩ := r.drew.new hn (.inr rfl) (hzv.rep k) (rest := (Builtin.zeroCells u.cells (grownCap w k 0 el - k)).toList) (fun h => by cases h) el
      have hge := grownCap_ge w k 0 el
      have hus : u.cells.size = inf.size := by rw [← hzl, ← hcz]; simp
      have hrest : (Builtin.zeroCells u.cells (grownCap w k 0 el - k)).toList.length = (grownCap w k 0 el - k) * inf.size := by
        have := size_zeroCells u.cells (grownCap w k 0 el - k)
        rw [hus] at this
        simpa using this
      refine ⟨_, _, _, .inl (does_append ho hc hta hxa (by rw [hs', hx']; exact hrun)), VR.weak (.slice _ 0 _ _ _ _ _ (Map.add_same _ _ _) ⟨fun hlt => by unfold U at hlt; omega, hge, fun _ => rfl, fun sz hsz => ?_⟩), hr, ((Ext.drew _ _ _).trans hx2)⟩
      have : sz = inf.size := by omega
      subst this
      simp only [World.size_drew]
      have hlr : (rep k z).length = k * inf.size := by rw [← hmade]; have := size_zeroCells u.cells k; rw [hus] at this; simpa using this
      rw [hlr, hrest]
      simp only [Nat.add_zero, Nat.zero_add]
      rw [← Nat.add_mul]
      congr 1
      omega
  simp only [hu, hut] at e
  rename_i el eu
  cases hie : P.info? el with
  | none => simp only [hie] at e; cases e
  | some inf =>
  cases hz : zeroL P el with
  | none => simp only [hie, hz] at e; cases e
  | some z =>
  simp only [hie, hz] at e
  split at e
  · cases e
  · rename_i hsz
    rcases opApp_some e with e | ⟨b, ob, len, q, k, cx, cs, news, hse, hxe, hk, h40, hby, hb, hfit, hnews, hw, rfl⟩
    case inr =>
      rw [hse] at hs
      rw [hxe] at hx hnews
      obtain ⟨q', cx', hx', _, _⟩ := hx.slice_any
      obtain ⟨_, _, hln, news', hvn, hfn, _⟩ := cells_sim (P := P) r hx hnews
      obtain ⟨b', ob', L, a', cap', hbe, hL, hs', hsl⟩ := hs.slice_inv
      cases hbe
      obtain ⟨_, hfits, _⟩ := r.blk b ⟨cs, .grow⟩ L hb (by simp [Blk.live]) hL
      have hlim := hsl.lim inf.size rfl
      have hroom : len + k ≤ cap' := by
        have h2 : (len + k) * inf.size ≤ cap' * inf.size := by
          have : L.off + cs.length ≤ L.lim := hfits
          omega
        exact Nat.le_of_mul_le_mul_right h2 (by omega)
      have ha := hsl.at_ (by omega)
      subst ha
      obtain ⟨rfl, L', hL', hr, hex, hcells, hfz, hone⟩ := r.wrN hw hvn
      rw [hL] at hL'
      cases hL'
      have hrun := run_app_in (P := P) (w := w) (ty := o.type) (b := L.blk) (ob := L.off + ob) (len := len) (cap := cap') (k := k) (c := cx') (x := q') (news := news') hu hut hie (by rw [← hx']; exact hfn w rfl) hroom
        (fun j hj => by have := hcells j hj; rw [← Nat.add_assoc] at this; exact this) hfz hone
      rw [← Nat.add_assoc] at hr hex
      exact ⟨_, ρ, _, .inl (does_append ho hc hta hxa (by rw [hs', hx']; exact hrun)), VR.weak (.slice _ _ _ _ _ _ L hL ⟨fun hlt => by omega, hroom, hsl.at_, fun sz hszz => hsl.lim sz hszz⟩), hr, hex⟩
    obtain ⟨p, len, cap, q, k, cx, hse, hxe, hcase⟩ := opAppend_some e
    rw [hse] at hs
    rw [hxe] at hx
    obtain ⟨q', cx', hx', _, _⟩ := hx.slice_any
    rcases hcase with ⟨rfl, rfl, rfl, hv⟩ | ⟨hk, h40, hby, news, hnews, hcase⟩
    · obtain ⟨p', cap', hs', hle, _⟩ := hs.slice_any
      have hrun := run_app_none (P := P) (w := w) (ty := o.type) (s := p') (x := q') (c := cx') hu hut hie (firstCells_zero _ _ _) hle
      refine .same r (v' := .slice p' len cap') (does_append ho hc hta hxa (by rw [hs', hx']; exact hrun)) ?_
      rcases hv with ⟨rfl, rfl⟩ | ⟨b, ob, rfl, rfl⟩
      · obtain ⟨rfl, rfl, h0⟩ := hs.nilslice_inv
        rw [hs'] at h0
        rw [h0]
        exact VR.nilslice.weak
      · rw [hse, ← hs']; exact hs
    · rw [hxe] at hnews
      obtain ⟨_, _, hln, news', hvn, hfn, _⟩ := cells_sim (P := P) r hx hnews
      rcases hcase with ⟨rfl, a0, olds, b, n1, h1, rfl, holds, hkill, hn, rfl⟩ | ⟨hcapU, hlt, olds, b, holds, hn, rfl⟩ | ⟨hroom, hcapU, b, ob, rfl, hw, rfl⟩
      · -- nobody knows how much room there is
        obtain ⟨rfl, ocs, hb0, rfl⟩ := kill_some hkill
        rw [hse] at holds
        obtain ⟨_, _, hlo, olds', hvo, hfo, hat⟩ := cells_sim (P := P) r hs holds
        obtain ⟨b0, ob, L, a', cap', ha0, hL, hs', hsl⟩ := hs.slice_inv
        cases ha0
        by_cases hroom : len + k ≤ cap'
        · have hc0 : cap' ≠ 0 := by omega
          have ha := hsl.at_ hc0
          subst ha
          have hlim := hsl.lim inf.size rfl
          obtain ⟨⟨arr, elem, fz, hobj, hfz, hlimle, hcells⟩, hfits, _⟩ := r.blk b0 ⟨ocs, .grow⟩ L hb0 (by simp [Blk.live]) hL
          have hfz0 := hfz (.inr rfl)
          subst hfz0
          have hbig : len * inf.size + k * inf.size ≤ cap' * inf.size := by rw [← Nat.add_mul]; exact Nat.mul_le_mul_right _ hroom
          have hone : ∀ u ∈ news', u.oneCell' = true := by
            have h1' := (new_some hn).2.2.2.2
            rw [List.all_append, Bool.and_eq_true] at h1'
            exact hvn.one h1'.2
          have hnl : news'.length = k * inf.size := by rw [← hvn.1]; exact hln
          have hol : olds'.length = len * inf.size := by rw [← hvo.1]; exact hlo
          have hrun := run_app_in (P := P) (w := w) (ty := o.type) (b := L.blk) (ob := L.off + ob) (len := len) (cap := cap') (k := k) (c := cx') (x := q') (news := news') hu hut hie (by rw [← hx']; exact hfn w rfl) hroom
            (fun j hj => by
              have : L.off + ob + len * inf.size + j < arr.size := by omega
              simp [World.cell?, hobj, this]) (fun j => by simp [World.frozen?, hobj]) hone
          have hpk := poked_setCells w L.blk (L.off + ob + len * inf.size) news'
          obtain ⟨_, _, _, _, _, hset⟩ := setCells_heap L.blk news' (L.off + ob + len * inf.size) w
          obtain ⟨arr', g1, g2, g3⟩ := hset arr elem (0, 0) hobj
          have hb0m : (⟨ocs, .grow⟩ : Blk).mine := .inr rfl
          have r1 := (r.kill hb0).poke hpk ⟨_, _, _, hobj⟩ (fun b2 B2 L2 hb2 hl2 hL2 hk2 => by
            rw [H.get_set] at hb2
            split at hb2
            · simp only [Option.some.injEq] at hb2; subst hb2; exact absurd rfl hl2
            · rename_i hne
              have := r.apart b2 b0 B2 ⟨ocs, .grow⟩ L2 L hne hb2 hb0 hl2 hb0m hL2 hL
              exact absurd hk2 this)
          obtain ⟨rfl, rfl, hfresh, rfl, _⟩ := new_some hn
          have hρn := (r.kill hb0).fresh hfresh
          have hle := Map.add_le ⟨L.blk, L.off + ob, L.lim⟩ hρn
          have hadd : R G (ρ.add b ⟨L.blk, L.off + ob, L.lim⟩) ((h.set b0 dead).set b ⟨olds ++ news, .grow⟩) (w.setCells L.blk (L.off + ob + len * inf.size) news') := by
            refine r1.add hfresh ⟨⟨arr', elem, (0, 0), g1, fun _ => rfl, by show L.lim ≤ arr'.size; omega, fun i u hiu => ?_⟩, by simp [hlo, hln]; omega, fun h => by cases h⟩ (.inr rfl) (fun b2 B2 L2 hb2 hl2 hL2 => ?_)
            · simp only at hiu ⊢
              rw [g3]
              by_cases hi : i < olds.length
              · rw [List.getElem?_append_left hi] at hiu
                rw [if_neg (by omega)]
                obtain ⟨u', hu', hur⟩ := hvo.get hiu
                have hlen0 : len ≠ 0 := by intro h0; rw [h0] at hlo; simp at hlo; rw [hlo] at hi; simp at hi
                obtain ⟨b3, o3, L3, he3, hL3, hat3⟩ := hat hlen0
                cases he3
                rw [hL] at hL3
                cases hL3
                have := hat3 i u' hu'
                simp [World.cell?, hobj] at this
                exact ⟨u', this, hur.mono hle⟩
              · rw [List.getElem?_append_right (by omega)] at hiu
                obtain ⟨u', hu', hur⟩ := hvn.get hiu
                have hin : i - olds.length < news'.length := (List.getElem?_eq_some_iff.1 hu').1
                rw [if_pos (by omega)]
                exact ⟨u', by rw [show L.off + ob + i - (L.off + ob + len * inf.size) = i - olds.length by omega]; exact hu', hur.mono hle⟩
            · rw [H.get_set] at hb2
              split at hb2
              · simp only [Option.some.injEq] at hb2; subst hb2; exact absurd rfl hl2
              · rename_i hne
                have := r.apart b2 b0 B2 ⟨ocs, .grow⟩ L2 L hne hb2 hb0 hl2 hb0m hL2 hL
                exact this
          refine ⟨_, _, _, .inl (does_append ho hc hta hxa (by rw [hs', hx']; exact hrun)), VR.weak (.slice b 0 _ _ _ _ ⟨L.blk, L.off + ob, L.lim⟩ (Map.add_same _ _ _) ⟨fun hlt => by omega, hroom, fun _ => rfl, fun sz hszz => ?_⟩), hadd,
            ⟨hle, hpk.os, hpk.tape, hpk.output, by rw [hpk.size]; exact Nat.le_refl _, fun kk _ hno => hpk.other kk (fun he => hno ⟨b0, _, L, hb0, .inl hb0m, hL, he.symm⟩), fun kk _ hown => ?_⟩⟩
          · have : sz = inf.size := by omega
            subst this
            simp only [Nat.add_zero]; exact hlim
          · obtain ⟨c2, C2, M2, hc2, hm2, hM2, hk2⟩ := hown
            rw [H.get_set] at hc2
            unfold Map.add at hM2
            split at hc2
            · rename_i he
              rw [if_pos he] at hM2
              simp only [Option.some.injEq] at hM2
              subst hM2
              exact ⟨b0, _, L, hb0, .inl hb0m, hL, hk2⟩
            · rename_i hne
              rw [if_neg hne] at hM2
              rw [H.get_set] at hc2
              split at hc2
              · simp only [Option.some.injEq] at hc2; subst hc2
                rcases hm2 with hm2 | hm2
                · exact absurd rfl hm2.live
                · exact absurd hm2 not_map_dead
              · exact ⟨c2, C2, M2, hc2, hm2, hM2, hk2⟩
        · exact does_grow r ho hc hu hut hie hz hta hxa hs' hx' (by omega) h40 hby hvo hvn hlo hln hfo hfn (r.kill hb0) (Ext.kill _ _ _ _) hn
      · rw [hse] at holds
        obtain ⟨_, _, hlo, olds', hvo, hfo, _⟩ := cells_sim (P := P) r hs holds
        obtain ⟨p', cap', hs', hle, hkn⟩ := hs.slice_any
        have hcap : cap' = cap := hkn (by unfold U; omega)
        subst hcap
        exact does_grow r ho hc hu hut hie hz hta hxa hs' hx' hlt h40 hby hvo hvn hlo hln hfo hfn r (Ext.refl _ _ _) hn
      · obtain ⟨b', ob', L, a', cap', hbe, hL, hs', hsl⟩ := hs.slice_inv
        cases hbe
        have hcap := hsl.known hcapU
        subst hcap
        have ha := hsl.at_ (by omega)
        subst ha
        obtain ⟨rfl, L', hL', hr, hex, hcells, hfz, hone⟩ := r.wrN hw hvn
        rw [hL] at hL'
        cases hL'
        have hrun := run_app_in (P := P) (w := w) (ty := o.type) (b := L.blk) (ob := L.off + ob) (len := len) (cap := cap') (k := k) (c := cx') (x := q') (news := news') hu hut hie (by rw [← hx']; exact hfn w rfl) hroom
          (fun j hj => by have := hcells j hj; rw [← Nat.add_assoc] at this; exact this) hfz hone
        rw [← Nat.add_assoc] at hr hex
        exact ⟨_, ρ, _, .inl (does_append ho hc hta hxa (by rw [hs', hx']; exact hrun)), VR.weak (.slice _ _ _ _ _ _ L hL ⟨fun _ => rfl, hroom, hsl.at_, fun sz hszz => hsl.lim sz hszz⟩), hr, hex⟩
end
end Go.Fw
end
