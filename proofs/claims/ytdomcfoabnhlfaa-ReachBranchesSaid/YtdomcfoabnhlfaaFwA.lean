/-
  The base of a framework of this session's own: an abstract, deterministic heap; values that are alike under a map of blocks; what an abstract heap says of a world.
-/
import Derived.WalkKit
import Derived.Orders
import GoSem.ClaimKeys
namespace Go.Fw

/-! ## Blocks, and the heap: a tree by the bits of a block's number -/

/-- What a block is: read only (came in), own (just as long as it is), grow (made by an append: there may be room behind it), dead (nobody may look). -/
inductive Kind where
  | ro | own | grow | dead
  deriving DecidableEq

structure Blk where
  cells : List Value
  kind : Kind

inductive H where
  | leaf
  | node (l : H) (v : Option Blk) (r : H)

def H.get : H → Nat → Option Blk
  | .leaf, _ => none
  | .node l v r, n => if n = 0 then v else if n % 2 = 1 then l.get (n / 2) else r.get (n / 2 - 1)

def H.put : Nat → H → Nat → Blk → H
  | 0, t, _, _ => t
  | f + 1, .leaf, n, x => if n = 0 then .node .leaf (some x) .leaf else if n % 2 = 1 then .node (H.put f .leaf (n / 2) x) none .leaf else .node .leaf none (H.put f .leaf (n / 2 - 1) x)
  | f + 1, .node l v r, n, x => if n = 0 then .node l (some x) r else if n % 2 = 1 then .node (H.put f l (n / 2) x) v r else .node l v (H.put f r (n / 2 - 1) x)

def H.set (t : H) (n : Nat) (x : Blk) : H := H.put (n + 1) t n x

theorem H.get_put : ∀ (f : Nat) (t : H) (n : Nat) (x : Blk) (m : Nat), n < f → (H.put f t n x).get m = if m = n then some x else t.get m := by
  intro f
  induction f with
  | zero => intro t n x m h; omega
  | succ f ih =>
    intro t n x m h
    cases t with
    | leaf =>
      by_cases h0 : n = 0
      · subst h0
        simp only [H.put, if_true, H.get]
        by_cases hm : m = 0 <;> simp [hm]
      · by_cases h1 : n % 2 = 1
        · simp only [H.put, h0, h1, if_true, if_false, H.get]
          by_cases hm : m = 0
          · simp only [hm, if_true]; rw [if_neg (by omega)]
          · simp only [hm, if_false]
            by_cases hm1 : m % 2 = 1
            · simp only [hm1, if_true]; rw [ih _ _ _ _ (by omega)]; simp only [H.get]
              by_cases e : m = n
              · simp [e]
              · rw [if_neg (by omega), if_neg e]
            · simp only [hm1, if_false]; rw [if_neg (by intro e; subst e; omega)]
        · simp only [H.put, h0, h1, if_false, H.get]
          by_cases hm : m = 0
          · simp only [hm, if_true]; rw [if_neg (by omega)]
          · simp only [hm, if_false]
            by_cases hm1 : m % 2 = 1
            · simp only [hm1, if_true]; rw [if_neg (by intro e; subst e; omega)]
            · simp only [hm1, if_false]; rw [ih _ _ _ _ (by omega)]; simp only [H.get]
              by_cases e : m = n
              · simp [e]
              · rw [if_neg (by omega), if_neg e]
    | node l v r =>
      by_cases h0 : n = 0
      · subst h0
        simp only [H.put, if_true, H.get]
        by_cases hm : m = 0 <;> simp [hm]
      · by_cases h1 : n % 2 = 1
        · simp only [H.put, h0, h1, if_true, if_false, H.get]
          by_cases hm : m = 0
          · simp only [hm, if_true]; rw [if_neg (by omega)]
          · simp only [hm, if_false]
            by_cases hm1 : m % 2 = 1
            · simp only [hm1, if_true]; rw [ih _ _ _ _ (by omega)]
              by_cases e : m = n
              · simp [e]
              · rw [if_neg (by omega), if_neg e]
            · simp only [hm1, if_false]; rw [if_neg (by intro e; subst e; omega)]
        · simp only [H.put, h0, h1, if_false, H.get]
          by_cases hm : m = 0
          · simp only [hm, if_true]; rw [if_neg (by omega)]
          · simp only [hm, if_false]
            by_cases hm1 : m % 2 = 1
            · simp only [hm1, if_true]; rw [if_neg (by intro e; subst e; omega)]
            · simp only [hm1, if_false]; rw [ih _ _ _ _ (by omega)]
              by_cases e : m = n
              · simp [e]
              · rw [if_neg (by omega), if_neg e]

theorem H.get_set (t : H) (n : Nat) (x : Blk) (m : Nat) : (t.set n x).get m = if m = n then some x else t.get m := H.get_put _ t n x m (by omega)
@[simp] theorem H.get_set_same (t : H) (n : Nat) (x : Blk) : (t.set n x).get n = some x := by rw [H.get_set]; simp
theorem H.get_set_ne (t : H) {n m : Nat} (x : Blk) (h : m ≠ n) : (t.set n x).get m = t.get m := by rw [H.get_set]; simp [h]

/-! ## Values that are alike -/

/-- Where a block lies in the world: from 'off' on, up to 'lim', in the block 'blk'. -/
structure Loc where
  blk : Nat
  off : Nat
  lim : Nat

abbrev Map := Nat → Option Loc

/-- From here on a capacity isn't known: U + s, where an element has s cells. -/
def U : Nat := 18446744073709551616

/-- What a slice's address and capacity are in the world. -/
structure SL (L : Loc) (o len cap : Nat) (a' : Addr) (cap' : Nat) : Prop where
  known : cap < U → cap' = cap
  le : len ≤ cap'
  at_ : cap' ≠ 0 → a' = ⟨L.blk, L.off + o, none⟩
  lim : ∀ s, cap = U + s → cap' ≠ 0 → L.off + o + cap' * s = L.lim

inductive VR (ρ : Map) : Value → Value → Prop where
  | bool (b : Bool) : VR ρ (.bool b) (.bool b)
  | int (k : IntKind) (n : Int) : VR ρ (.int k n) (.int k n)
  | string (s : ByteArray) : VR ρ (.string s) (.string s)
  | nilptr : VR ρ (.pointer none) (.pointer none)
  | ptr (b o : Nat) (L : Loc) : ρ b = some L → VR ρ (.pointer (some ⟨b, o, none⟩)) (.pointer (some ⟨L.blk, L.off + o, none⟩))
  | nilslice : VR ρ (.slice none 0 0) (.slice none 0 0)
  | slice (b o len cap : Nat) (a' : Addr) (cap' : Nat) (L : Loc) : ρ b = some L → SL L o len cap a' cap' → VR ρ (.slice (some ⟨b, o, none⟩) len cap) (.slice (some a') len cap')
  | func (fn : Fn) (cs cs' : Array Value) : cs.size = cs'.size → (∀ (i : Nat) v v', cs[i]? = some v → cs'[i]? = some v' → VR ρ v v') → VR ρ (.func fn #[] cs) (.func fn #[] cs')
  | nilFunc : VR ρ .nilFunc .nilFunc
  | nilIface : VR ρ .nilIface .nilIface
  | iface (t : TypeId) (v v' : Value) : VR ρ v v' → VR ρ (.iface t v) (.iface t v')
  | agg (cs cs' : Array Value) : cs.size = cs'.size → (∀ (i : Nat) v v', cs[i]? = some v → cs'[i]? = some v' → VR ρ v v') → VR ρ (.agg cs) (.agg cs')
  | tuple (cs cs' : Array Value) : cs.size = cs'.size → (∀ (i : Nat) v v', cs[i]? = some v → cs'[i]? = some v' → VR ρ v v') → VR ρ (.tuple cs) (.tuple cs')
  | nilmap : VR ρ (.map none) (.map none)
  | map (b : Nat) (L : Loc) : ρ b = some L → VR ρ (.map (some b)) (.map (some L.blk))

def Le (ρ ρ' : Map) : Prop := ∀ b L, ρ b = some L → ρ' b = some L
theorem Le.refl (ρ : Map) : Le ρ ρ := fun _ _ h => h
theorem Le.trans {a b c : Map} (h : Le a b) (k : Le b c) : Le a c := fun x L hx => k x L (h x L hx)

theorem VR.mono {ρ ρ' : Map} (h : Le ρ ρ') {v v' : Value} (hv : VR ρ v v') : VR ρ' v v' := by
  induction hv with
  | bool b => exact .bool b
  | int k n => exact .int k n
  | string s => exact .string s
  | nilptr => exact .nilptr
  | ptr b o L hb => exact .ptr b o L (h _ _ hb)
  | nilslice => exact .nilslice
  | slice b o len cap a' cap' L hb hs => exact .slice b o len cap a' cap' L (h _ _ hb) hs
  | func fn cs cs' hs _ ih => exact .func fn cs cs' hs ih
  | nilFunc => exact .nilFunc
  | nilIface => exact .nilIface
  | iface t v v' _ ih => exact .iface t v v' ih
  | agg cs cs' hs _ ih => exact .agg cs cs' hs ih
  | tuple cs cs' hs _ ih => exact .tuple cs cs' hs ih
  | nilmap => exact .nilmap
  | map b L hb => exact .map b L (h _ _ hb)

/-- What an operation that isn't wanted leaves. -/
def skipV : Value := .tuple #[.nilFunc]
def VW (ρ : Map) (v v' : Value) : Prop := (v = undef ∨ v = skipV ∧ v' = undef) ∨ VR ρ v v'
theorem VW.mono {ρ ρ' : Map} (h : Le ρ ρ') {v v' : Value} (hv : VW ρ v v') : VW ρ' v v' := hv.imp id (VR.mono h)
theorem VR.weak {ρ : Map} {v v' : Value} (h : VR ρ v v') : VW ρ v v' := .inr h

/-- One cell's value: no struct, no tuple. -/
def one : Value → Bool
  | .agg _ => false
  | .tuple _ => false
  | _ => true

theorem one_oneCell' {v : Value} : one v = v.oneCell' := by cases v <;> rfl
theorem VR.one {ρ : Map} {v v' : Value} (h : VR ρ v v') : Fw.one v' = Fw.one v := by cases h <;> rfl
theorem VW.strict {ρ : Map} {v v' : Value} (h : VW ρ v v') (h1 : Fw.one v = true) : VR ρ v v' := by
  rcases h with (rfl | ⟨rfl, _⟩) | h
  · simp [undef, Fw.one] at h1
  · simp [skipV, Fw.one] at h1
  · exact h
theorem cells_of_one {v : Value} (h : one v = true) : v.cells = #[v] := by cases v <;> first | rfl | simp [one] at h

/-! ## What an abstract heap says of a world -/

def Blk.live (B : Blk) : Prop := B.kind ≠ .dead
def Blk.mine (B : Blk) : Prop := B.kind = .own ∨ B.kind = .grow

structure BlkOK (ρ : Map) (w : World) (L : Loc) (B : Blk) : Prop where
  obj : ∃ arr elem fz, w.heap[L.blk]? = some (.cells arr elem fz) ∧ (B.mine → fz = (0, 0)) ∧ L.lim ≤ arr.size ∧
    ∀ (i : Nat) v, B.cells[i]? = some v → ∃ v', arr[L.off + i]? = some v' ∧ VR ρ v v'
  fits : L.off + B.cells.length ≤ L.lim
  exact : B.kind = .own → L.lim = L.off + B.cells.length

/-- A map's block: its entries lie behind a mark; nobody looks at it as at cells. -/
def Blk.isMap (B : Blk) : Prop := B.kind = .dead ∧ B.cells.head? = some .nilFunc
def wf64 : Value → Bool
  | .int .i64 z => (Lit.int .i64 z).wf
  | _ => false
/-- A map's key: a number (0), or so many numbers. -/
def ikey : Nat → Value → Bool
  | 0, v => wf64 v
  | n + 1, .agg cs => decide (cs.size = n + 1) && cs.toList.all wf64
  | _, _ => false
def flatE : List (Value × Value) → List Value
  | [] => []
  | (k, v) :: r => k :: v :: flatE r
def mapB (n : Nat) (E : List (Value × Value)) : Blk := ⟨.nilFunc :: .int .u64 n :: flatE E, .dead⟩
theorem isMap_mapB (n : Nat) (E : List (Value × Value)) : (mapB n E).isMap := ⟨rfl, rfl⟩
theorem not_live_mapB (n : Nat) (E : List (Value × Value)) : ¬ (mapB n E).live := fun h => h rfl
theorem not_mine_mapB (n : Nat) (E : List (Value × Value)) : ¬ (mapB n E).mine := fun h => by rcases h with h | h <;> cases h

structure MapOK (ρ : Map) (w : World) (L : Loc) (B : Blk) : Prop where
  obj : ∃ n E es clock, B = mapB n E ∧ w.heap[L.blk]? = some (.map es clock) ∧ E.length = es.size ∧ (∀ p, p ∈ E → ikey n p.1 = true) ∧ E.Pairwise (fun p q => p.1 ≠ q.1) ∧
    ∀ (i : Nat) p e, E[i]? = some p → es[i]? = some e → p.1 = e.key ∧ VR ρ p.2 e.val

structure R (G : Nat) (ρ : Map) (h : H) (w : World) : Prop where
  dom : ∀ b, (h.get b).isSome = (ρ b).isSome
  glob : ∀ g, g < G → ∃ lim, ρ g = some ⟨g, 0, lim⟩
  blk : ∀ b B L, h.get b = some B → B.live → ρ b = some L → BlkOK ρ w L B
  apart : ∀ b c B C L M, b ≠ c → h.get b = some B → h.get c = some C → B.live → C.mine → ρ b = some L → ρ c = some M → L.blk ≠ M.blk ∨ L.lim ≤ M.off ∨ M.lim ≤ L.off
  maps : ∀ b B L, h.get b = some B → B.isMap → ρ b = some L → MapOK ρ w L B
  lone : ∀ b c B C L M, b ≠ c → h.get b = some B → h.get c = some C → B.isMap → C.isMap → ρ b = some L → ρ c = some M → L.blk ≠ M.blk

/-- A block of the world that is written. -/
def Blk.ours (B : Blk) : Prop := B.mine ∨ B.isMap
def Own (ρ : Map) (h : H) (k : Nat) : Prop := ∃ b B L, h.get b = some B ∧ B.ours ∧ ρ b = some L ∧ L.blk = k

structure Ext (ρ : Map) (h : H) (w : World) (ρ' : Map) (h' : H) (w' : World) : Prop where
  le : Le ρ ρ'
  os : w'.os = w.os
  tape : w'.tape = w.tape
  output : w'.output = w.output
  size : w.heap.size ≤ w'.heap.size
  frame : ∀ k, k < w.heap.size → ¬ Own ρ h k → w'.heap[k]? = w.heap[k]?
  owns : ∀ k, k < w.heap.size → Own ρ' h' k → Own ρ h k

theorem Ext.refl (ρ : Map) (h : H) (w : World) : Ext ρ h w ρ h w := ⟨Le.refl _, rfl, rfl, rfl, Nat.le_refl _, fun _ _ _ => rfl, fun _ _ h => h⟩
theorem Ext.trans {ρ₁ ρ₂ ρ₃ : Map} {h₁ h₂ h₃ : H} {w₁ w₂ w₃ : World} (a : Ext ρ₁ h₁ w₁ ρ₂ h₂ w₂) (b : Ext ρ₂ h₂ w₂ ρ₃ h₃ w₃) : Ext ρ₁ h₁ w₁ ρ₃ h₃ w₃ :=
  ⟨a.le.trans b.le, b.os.trans a.os, b.tape.trans a.tape, b.output.trans a.output, Nat.le_trans a.size b.size,
    fun k hk hn => (b.frame k (Nat.lt_of_lt_of_le hk a.size) fun ho => hn (a.owns k hk ho)).trans (a.frame k hk hn),
    fun k hk ho => a.owns k hk (b.owns k (Nat.lt_of_lt_of_le hk a.size) ho)⟩

/-- A draw turns nothing. -/
theorem R.drew {G : Nat} {ρ : Map} {h : H} {w : World} (r : R G ρ h w) : R G ρ h w.drew := ⟨r.dom, r.glob, fun b B L hb hl hr => let o := r.blk b B L hb hl hr; ⟨o.obj, o.fits, o.exact⟩, r.apart, fun b B L hb hm hr => ⟨(r.maps b B L hb hm hr).obj⟩, r.lone⟩
theorem Ext.drew (ρ : Map) (h : H) (w : World) : Ext ρ h w ρ h w.drew := ⟨Le.refl _, rfl, rfl, rfl, Nat.le_refl _, fun _ _ _ => rfl, fun _ _ h => h⟩

/-- A cell of a live block. -/
theorem R.cell {G : Nat} {ρ : Map} {h : H} {w : World} (r : R G ρ h w) {b : Nat} {B : Blk} (hb : h.get b = some B) (hl : B.live) {L : Loc} (hL : ρ b = some L) {i : Nat} {v : Value} (hv : B.cells[i]? = some v) :
    ∃ v', w.cell? ⟨L.blk, L.off + i, none⟩ = some v' ∧ VR ρ v v' := by
  obtain ⟨arr, elem, fz, ho, _, _, hc⟩ := (r.blk b B L hb hl hL).obj
  obtain ⟨v', h1, h2⟩ := hc i v hv
  exact ⟨v', by simp [World.cell?, ho, h1], h2⟩

theorem R.loc {G : Nat} {ρ : Map} {h : H} {w : World} (r : R G ρ h w) {b : Nat} {B : Blk} (hb : h.get b = some B) : ∃ L, ρ b = some L := by
  have := r.dom b
  rw [hb] at this
  exact Option.isSome_iff_exists.1 this.symm

theorem R.unfrozen {G : Nat} {ρ : Map} {h : H} {w : World} (r : R G ρ h w) {b : Nat} {B : Blk} (hb : h.get b = some B) (hm : B.mine) {L : Loc} (hL : ρ b = some L) (o : Nat) :
    w.frozen? ⟨L.blk, o, none⟩ = false := by
  obtain ⟨arr, elem, fz, ho, hf, _, _⟩ := (r.blk b B L hb (by rcases hm with h | h <;> simp [Blk.live, h]) hL).obj
  simp [World.frozen?, ho, hf hm]

theorem Blk.mine.live {B : Blk} (h : B.mine) : B.live := by rcases h with h | h <;> simp [Blk.live, h]

end Go.Fw
