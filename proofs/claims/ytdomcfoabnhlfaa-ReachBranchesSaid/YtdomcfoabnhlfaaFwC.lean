/-
  The abstract machine's operations.
-/
import Derived.Test.YtdomcfoabnhlfaaFwB
namespace Go.Fw

/-! ## Operands -/

def look : List (Nat × Value) → Nat → Value
  | [], _ => undef
  | (k, v) :: r, t => if t = k then v else look r t

/-- A constant without an address. -/
def okC0 : Value → Bool
  | .bool _ => true
  | .int _ _ => true
  | .string _ => true
  | .pointer none => true
  | .slice none 0 0 => true
  | .nilFunc => true
  | .nilIface => true
  | .map none => true
  | _ => false
def okC : Value → Bool
  | .agg cs => cs.toList.all okC0
  | v => okC0 v

def ev (G : Nat) (Γ : List (Nat × Value)) : Operand → Value
  | .tmp t => look Γ t
  | .const v => if okC v then v else undef
  | .global g => if g < G then .pointer (some ⟨g, 0, none⟩) else undef
  | .func f => .func (.func f) #[] #[]

/-! ## Operations on values -/

def opPick (c a b : Value) : M Value :=
  match c with
  | .bool true => ret a
  | .bool false => ret b
  | _ => fail
def opPtr (cs : List Value) : M Value := bnd (new cs .own) fun b => ret (.pointer (some ⟨b, 0, none⟩))
def opBoxN (v : Value) : M Value :=
  match v with
  | .agg cs => opPtr cs.toList
  | _ => fail
def opLoad (x : Value) : M Value :=
  match x with
  | .pointer (some ⟨b, o, none⟩) => rd b o
  | _ => fail
def opLoadN (k : Nat) (x : Value) : M Value :=
  match x with
  | .pointer (some ⟨b, o, none⟩) => bnd (rdN b o k) fun cs => ret (.agg cs.toArray)
  | _ => fail
def opStore (x v : Value) : M Value :=
  match x with
  | .pointer (some ⟨b, o, none⟩) => bnd (wr1 b o v) fun _ => ret undef
  | _ => fail
def opStoreN (k : Nat) (x v : Value) : M Value :=
  match x, v with
  | .pointer (some ⟨b, o, none⟩), .agg cs => if cs.size = k then bnd (wrN b o cs.toList) fun _ => ret undef else fail
  | _, _ => fail
def opNil (x : Value) : M Value :=
  match x with
  | .pointer (some a) => ret (.pointer (some a))
  | .func (.func f) fi cs => ret (.func (.func f) fi cs)
  | .iface t v => ret (.iface t v)
  | _ => fail

def fillA : List Value → List (Nat × Nat × Bool × Value) → Option (List Value)
  | cs, [] => some cs
  | cs, (off, size, false, v) :: r => if one v && size == 1 && decide (off < cs.length) then fillA (cs.set off v) r else none
  | cs, (off, size, true, v) :: r =>
    match v with
    | .agg xs => if decide (xs.size = size) && decide (off + size ≤ cs.length) then fillA (over cs off xs.toList) r else none
    | _ => none

def opBuild (z : List Value) (ps : List (Nat × Nat × Bool × Value)) : M Value :=
  match fillA z ps with
  | some cs => ret (.agg cs.toArray)
  | none => fail
def opBuildSlice (n : Nat) (z : List Value) (ps : List (Nat × Nat × Bool × Value)) : M Value :=
  match fillA z ps with
  | some cs => bnd (new cs .own) fun b => ret (.slice (some ⟨b, 0, none⟩) n n)
  | none => fail

def rep (n : Nat) (z : List Value) : List Value := (List.replicate n z).flatten

def opMake (bytes : Nat) (z : List Value) (l c : Value) : M Value :=
  match l, c with
  | .int _ l, .int _ c =>
    if 0 ≤ l ∧ l ≤ c ∧ c ≤ 1099511627776 ∧ bytes * c.toNat ≤ 70368744177664 then bnd (new (rep c.toNat z) .own) fun b => ret (.slice (some ⟨b, 0, none⟩) l.toNat c.toNat)
    else fail
  | _, _ => fail

def opFieldAddr (off : Nat) (x : Value) : M Value :=
  match x with
  | .pointer (some ⟨b, o, none⟩) => ret (.pointer (some ⟨b, o + off, none⟩))
  | _ => fail
def opField (off : Nat) (x : Value) : M Value :=
  match x with
  | .agg cs => match cs.toList[off]? with
    | some v => ret v
    | none => fail
  | _ => fail
def opFieldN (off size : Nat) (x : Value) : M Value :=
  match x with
  | .agg cs => if off + size ≤ cs.toList.length then ret (.agg ((cs.toList.drop off).take size).toArray) else fail
  | _ => fail
def opIndexAddr (size : Nat) (x i : Value) : M Value :=
  match x, i with
  | .slice (some ⟨b, o, none⟩) len _, .int _ i => if 0 ≤ i ∧ i < (len : Int) then ret (.pointer (some ⟨b, o + i.toNat * size, none⟩)) else fail
  | _, _ => fail
def opIndexAddrA (n size : Nat) (x i : Value) : M Value :=
  match x, i with
  | .pointer (some ⟨b, o, none⟩), .int _ i => if 0 ≤ i ∧ i < (n : Int) then ret (.pointer (some ⟨b, o + i.toNat * size, none⟩)) else fail
  | _, _ => fail
def opIndexA (n : Nat) (x i : Value) : M Value :=
  match x, i with
  | .agg cs, .int _ i => if 0 ≤ i ∧ i < (n : Int) then (match cs.toList[i.toNat]? with
    | some v => ret v
    | none => fail) else fail
  | _, _ => fail
def opIndexS (x i : Value) : M Value :=
  match x, i with
  | .string s, .int _ i => if 0 ≤ i then (match s[i.toNat]? with
    | some b => ret (.int .u8 b.toNat)
    | none => fail) else fail
  | _, _ => fail
def opExtract (x : Value) (i : Nat) : M Value :=
  match x with
  | .tuple vs => match vs.toList[i]? with
    | some v => if vs.size == 1 then fail else ret v
    | none => fail
  | _ => fail

def bin (op : BinOp) (x y : Value) : Option Value :=
  match x, y with
  | .int k a, .int k' b =>
    match op with
    | .shl => if b < 0 then none else some (.int k (k.wrap (a * 2 ^ (min b.toNat k.bits))))
    | .shr => if b < 0 then none else some (.int k (a.fdiv (2 ^ (min b.toNat k.bits))))
    | .add => if k = k' then some (.int k (k.wrap (a + b))) else none
    | .sub => if k = k' then some (.int k (k.wrap (a - b))) else none
    | .mul => if k = k' then some (.int k (k.wrap (a * b))) else none
    | .quo => if k = k' then if b = 0 then none else some (.int k (k.wrap (a.tdiv b))) else none
    | .rem => if k = k' then if b = 0 then none else some (.int k (a.tmod b)) else none
    | .and => if k = k' then some (.int k (k.wrap (BitVec.ofInt k.bits a &&& BitVec.ofInt k.bits b).toNat)) else none
    | .or => if k = k' then some (.int k (k.wrap (BitVec.ofInt k.bits a ||| BitVec.ofInt k.bits b).toNat)) else none
    | .xor => if k = k' then some (.int k (k.wrap (BitVec.ofInt k.bits a ^^^ BitVec.ofInt k.bits b).toNat)) else none
    | .andNot => if k = k' then some (.int k (k.wrap (BitVec.ofInt k.bits a &&& ~~~BitVec.ofInt k.bits b).toNat)) else none
    | .eql => if k = k' then some (.bool (a == b)) else none
    | .neq => if k = k' then some (.bool (a != b)) else none
    | .lss => if k = k' then some (.bool (decide (a < b))) else none
    | .leq => if k = k' then some (.bool (decide (a ≤ b))) else none
    | .gtr => if k = k' then some (.bool (decide (a > b))) else none
    | .geq => if k = k' then some (.bool (decide (a ≥ b))) else none
  | _, _ => none
def opBin (op : BinOp) (x y : Value) : M Value :=
  match bin op x y with
  | some v => ret v
  | none => fail

/-- '==' of bools; of pointers, slices, functions: against nil. -/
def eqB (x y : Value) : Option Bool :=
  match x, y with
  | .bool a, .bool b => some (a == b)
  | _, _ => none
def eqP (x y : Value) : Option Bool :=
  match x, y with
  | .pointer none, .pointer none => some true
  | .pointer none, .pointer (some _) => some false
  | .pointer (some _), .pointer none => some false
  | _, _ => none
def eqSl (x y : Value) : Option Bool :=
  match x, y with
  | .slice none _ _, .slice none _ _ => some true
  | .slice none _ _, .slice (some _) _ _ => some false
  | .slice (some _) _ _, .slice none _ _ => some false
  | _, _ => none
def opEq (f : Value → Value → Option Bool) (neg : Bool) (x y : Value) : M Value :=
  match f x y with
  | some b => ret (.bool (xor neg b))
  | none => fail

def opNot (x : Value) : M Value :=
  match x with
  | .bool b => ret (.bool (!b))
  | _ => fail
def opNeg (x : Value) : M Value :=
  match x with
  | .int k n => ret (.int k (k.wrap (0 - n)))
  | _ => fail
def opCom (x : Value) : M Value :=
  match x with
  | .int k n => ret (.int k (k.wrap (BitVec.ofInt k.bits (if k.signed then -1 else k.max) ^^^ BitVec.ofInt k.bits n).toNat))
  | _ => fail
def opConv (k : IntKind) (x : Value) : M Value :=
  match x with
  | .int _ n => ret (.int k (k.wrap n))
  | _ => fail

/-- A slice's bound. -/
def bound (x : Value) : Option Int :=
  match x with
  | .int _ n => some n
  | _ => none
def opSlice (size : Nat) (x : Value) (lo hi mx : Option Value) : M Value :=
  match x with
  | .slice a len cap =>
    match lo.elim (some 0) bound, hi.elim (some (len : Int)) bound, mx.elim (some (-1 : Int)) bound with
    | some l, some h, some m =>
      if 0 ≤ l ∧ l ≤ h then
        match mx with
        | none =>
          if h ≤ (len : Int) then
            (if cap = U + size then (match a with
              | some ⟨b, o, none⟩ => ret (.slice (some ⟨b, o + l.toNat * size, none⟩) (h - l).toNat cap)
              | _ => fail)
            else if cap < U then (match a with
              | some ⟨b, o, none⟩ => ret (.slice (some ⟨b, o + l.toNat * size, none⟩) (h - l).toNat (cap - l.toNat))
              | none => ret (.slice none 0 0)
              | _ => fail)
            else fail)
          else fail
        | some _ =>
          if hi.isSome ∧ h ≤ m ∧ m ≤ (len : Int) ∧ m ≤ 1099511627776 then
            (match a with
              | some ⟨b, o, none⟩ => if cap = U + size ∨ cap < U then ret (.slice (some ⟨b, o + l.toNat * size, none⟩) (h - l).toNat (m - l).toNat) else fail
              | none => ret (.slice none 0 0)
              | _ => fail)
          else fail
      else fail
    | _, _, _ => fail
  | _ => fail

def opLen (x : Value) : M Value :=
  match x with
  | .slice _ n _ => ret (.int .i64 n)
  | _ => fail
def opLenS (x : Value) : M Value :=
  match x with
  | .string s => ret (.int .i64 s.size)
  | _ => fail

def max2 (x y : Value) : Option Value :=
  match x, y with
  | .int k a, .int _ b => some (.int k (if b > a then b else a))
  | _, _ => none
def min2 (x y : Value) : Option Value :=
  match x, y with
  | .int k a, .int _ b => some (.int k (if b < a then b else a))
  | _, _ => none
def foldO (f : Value → Value → Option Value) : Value → List Value → Option Value
  | x, [] => some x
  | x, y :: r => match f x y with
    | some z => foldO f z r
    | none => none
def opMax (xs : List Value) : M Value :=
  match xs with
  | x :: r => (match foldO max2 x r with
    | some v => ret v
    | none => fail)
  | [] => fail
def opMin (xs : List Value) : M Value :=
  match xs with
  | x :: r => (match foldO min2 x r with
    | some v => ret v
    | none => fail)
  | [] => fail

/-- What is read of a slice: all its cells. -/
def cellsOf (size : Nat) (x : Value) : M (List Value) :=
  match x with
  | .slice none 0 _ => ret []
  | .slice (some ⟨b, o, none⟩) n _ => if n = 0 then ret [] else rdN b o (n * size)
  | _ => fail

def opAppend (size bytes : Nat) (s x : Value) : M Value :=
  match s, x with
  | .slice a len cap, .slice _ n _ =>
    if n = 0 then (match a with
      | none => if len = 0 ∧ cap = 0 then ret (.slice none 0 0) else fail
      | some ⟨b, o, none⟩ => if cap = U + size ∨ cap < U then ret (.slice (some ⟨b, o, none⟩) len cap) else fail
      | _ => fail)
    else if len + n ≤ 1099511627776 ∧ (len + n) * bytes ≤ 70368744177664 then
      bnd (cellsOf size x) fun news =>
      if cap = U + size then
        (match a with
        | some ⟨b, _, _⟩ => bnd (cellsOf size s) fun olds => bnd (kill b) fun _ => bnd (new (olds ++ news) .grow) fun c => ret (.slice (some ⟨c, 0, none⟩) (len + n) (U + size))
        | none => fail)
      else if cap < len + n then bnd (cellsOf size s) fun olds => bnd (new (olds ++ news) .grow) fun c => ret (.slice (some ⟨c, 0, none⟩) (len + n) (U + size))
      else if cap < U then
        (match a with
        | some ⟨b, o, none⟩ => bnd (wrN b (o + len * size) news) fun _ => ret (.slice (some ⟨b, o, none⟩) (len + n) cap)
        | _ => fail)
      else fail
    else fail
  | _, _ => fail

def opFunc (fn : Fn) (cs : List Value) : M Value :=
  if cs.all one then ret (.func fn #[] cs.toArray) else fail

def opCall (E : FuncId → Option (List Value → M Value)) (f : Value) (args : List Value) : M Value :=
  match f with
  | .func (.func g) _ cs => match E g with
    | some m => m (args ++ cs.toList)
    | none => fail
  | _ => fail

/-! ## An operation of the program -/

def aggT (P : Program) (t : TypeId) : Bool :=
  match P.underlying t with
  | some (.struct _) => true
  | some (.array _ _) => true
  | _ => false

def zeroL (P : Program) (t : TypeId) : Option (List Value) :=
  match P.info? t with
  | some i => match i.zero with
    | some z => if z.cells.toList.all okC0 && decide (z.cells.toList.length = i.size) then some z.cells.toList else none
    | none => none
  | none => none

def placeF (P : Program) (fs : Array Field) (i : Nat) : Option (Nat × Nat × Bool) :=
  match fs[i]? with
  | some f => match P.info? f.type with
    | some inf => some (f.offset, inf.size, aggT P f.type)
    | none => none
  | none => none
def placed (pl : Nat → Option (Nat × Nat × Bool)) : List (Nat × Value) → Option (List (Nat × Nat × Bool × Value))
  | [] => some []
  | (i, v) :: r => match pl i, placed pl r with
    | some (off, size, ag), some ps => some ((off, size, ag, v) :: ps)
    | _, _ => none

/-! ### Maps -/

def keq1 : Value → Value → Bool
  | .int .i64 a, .int .i64 b => decide (a = b)
  | _, _ => false
def keqL : List Value → List Value → Bool
  | [], [] => true
  | a :: r, b :: s => keq1 a b && keqL r s
  | _, _ => false
def keq : Value → Value → Bool
  | .agg a, .agg b => keqL a.toList b.toList
  | a, b => keq1 a b
def entFind (key : Value) : List Value → Option Value
  | k :: v :: r => if keq key k = true then some v else entFind key r
  | _ => none
def entPut (key v : Value) : List Value → List Value
  | k :: u :: r => if keq key k = true then k :: v :: r else k :: u :: entPut key v r
  | _ => [key, v]

def opMakeMap (n : Nat) : M Value := bnd (new [.nilFunc, .int .u64 n] .dead) fun b => ret (.map (some b))
/-- The entries, if the keys are of that kind. -/
def mapEnts (n : Nat) (key : Value) (cs : List Value) : Option (List Value) :=
  match cs with
  | .int .u64 c :: es => if c = (n : Int) ∧ ikey n key = true then some es else none
  | _ => none
def opLookup (n : Nat) (z : Value) (ok : Bool) (m key : Value) : M Value :=
  match m with
  | .map (some b) => bnd (mpGet b) fun cs => match mapEnts n key cs with
    | some es => (match entFind key es with
      | some v => ret (if ok then .tuple #[v, .bool true] else v)
      | none => ret (if ok then .tuple #[z, .bool false] else z))
    | none => fail
  | _ => fail
def opInsert (n : Nat) (m key v : Value) : M Value :=
  match m with
  | .map (some b) => bnd (mpGet b) fun cs => match mapEnts n key cs with
    | some es => if one v = true then bnd (mpSet b (.int .u64 n :: entPut key v es)) fun _ => ret undef else fail
    | none => fail
  | _ => fail

def isI64 (P : Program) (t : TypeId) : Bool :=
  match P.underlying t with
  | some (.int .i64) => true
  | _ => false
/-- A map's key type: of how many numbers. -/
def keyN (P : Program) (k : TypeId) : Option Nat :=
  match P.underlying k with
  | some (.int .i64) => some 0
  | some (.struct fs) => if laidOutB P && decide (k < P.types.size) && P.keyTypeAt 2 k && P.keyType k && decide (0 < fs.size) && decide (P.cellsOf k = fs.size) && (List.range fs.size).all (fun i => match fs[i]? with
      | some f => decide (f.offset = i) && f.name != "_" && decide (P.cellsOf f.type = 1) && isI64 P f.type
      | none => false) then some fs.size else none
  | _ => none
/-- A map's type: its keys, and an element's zero value. -/
def mapN (P : Program) (t : TypeId) : Option (Nat × Value) :=
  match P.underlying t with
  | some (.map k e) => (match keyN P k, (P.info? e).bind (·.zero) with
    | some n, some z => if okC0 z then some (n, z) else none
    | _, _ => none)
  | _ => none

abbrev Env := FuncId → Option (List Value → M Value)

def aop (P : Program) (G : Nat) (E : Env) (Γ : List (Nat × Value)) : Op → M Value
  | .move x => ret (ev G Γ x)
  | .assign x => ret (ev G Γ x)
  | .pick c a b => opPick (ev G Γ c) (ev G Γ a) (ev G Γ b)
  | .alloc t => match zeroL P t with
    | some z => opPtr z
    | none => fail
  | .box t x => if aggT P t then opBoxN (ev G Γ x) else opPtr [ev G Γ x]
  | .build t ps =>
    match P.underlying t, zeroL P t with
    | some (.struct fs), some z => if fs.toList.all (fun f => (P.info? f.type).isSome) then (match placed (placeF P fs) (ps.toList.map fun p => (p.1, ev G Γ p.2)) with
      | some l => opBuild z l
      | none => fail) else fail
    | some (.array _ e), some z => match P.info? e with
      | some inf => (match placed (fun i => some (i * inf.size, inf.size, aggT P e)) (ps.toList.map fun p => (p.1, ev G Γ p.2)) with
        | some l => opBuild z l
        | none => fail)
      | none => fail
    | _, _ => fail
  | .buildSlice t n ps =>
    match P.underlying t with
    | some (.slice e) => match P.info? e, zeroL P e with
      | some inf, some z => if n ≤ 16777216 ∧ n * inf.size ≤ 16777216 then (match placed (fun i => some (i * inf.size, inf.size, aggT P e)) (ps.toList.map fun p => (p.1, ev G Γ p.2)) with
        | some l => opBuildSlice n (rep n z) l
        | none => fail) else fail
      | _, _ => fail
    | _ => fail
  | .load t x => match P.underlying t, P.info? t with
    | some _, some i => if aggT P t then opLoadN i.size (ev G Γ x) else opLoad (ev G Γ x)
    | _, _ => fail
  | .store t x v => match P.info? t with
    | some i => if aggT P t then opStoreN i.size (ev G Γ x) (ev G Γ v) else if i.size = 1 then opStore (ev G Γ x) (ev G Γ v) else fail
    | none => fail
  | .nilCheck x => opNil (ev G Γ x)
  | .binOp op t x y _ =>
    match op with
    | .eql => (match P.underlying t with
      | some .bool => opEq eqB false (ev G Γ x) (ev G Γ y)
      | some (.pointer _) => opEq eqP false (ev G Γ x) (ev G Γ y)
      | some (.slice _) => opEq eqSl false (ev G Γ x) (ev G Γ y)
      | _ => opBin .eql (ev G Γ x) (ev G Γ y))
    | .neq => (match P.underlying t with
      | some .bool => opEq eqB true (ev G Γ x) (ev G Γ y)
      | some (.pointer _) => opEq eqP true (ev G Γ x) (ev G Γ y)
      | some (.slice _) => opEq eqSl true (ev G Γ x) (ev G Γ y)
      | _ => opBin .neq (ev G Γ x) (ev G Γ y))
    | op => opBin op (ev G Γ x) (ev G Γ y)
  | .unOp .not _ x => opNot (ev G Γ x)
  | .unOp .neg _ x => opNeg (ev G Γ x)
  | .unOp .xor _ x => opCom (ev G Γ x)
  | .convert s d x => match P.underlying s, P.underlying d with
    | some _, some (.int k) => opConv k (ev G Γ x)
    | _, _ => fail
  | .makeFunc fn first cs => if first.toList.isEmpty then opFunc fn (cs.toList.map (ev G Γ)) else fail
  | .makeSlice t l c => match P.underlying t with
    | some (.slice e) => match P.info? e, zeroL P e with
      | some i, some z => opMake i.bytes z (ev G Γ l) (ev G Γ c)
      | _, _ => fail
    | _ => fail
  | .slice t x lo hi mx => match P.underlying t with
    | some (.slice e) => match P.info? e with
      | some i => opSlice i.size (ev G Γ x) (lo.map (ev G Γ)) (hi.map (ev G Γ)) (mx.map (ev G Γ))
      | none => fail
    | _ => fail
  | .fieldAddr t x f => match P.underlying t with
    | some (.struct fs) => match fs[f]? with
      | some fd => match P.info? fd.type with
        | some i => if i.size = 0 then fail else opFieldAddr fd.offset (ev G Γ x)
        | none => fail
      | none => fail
    | _ => fail
  | .field t x f => match P.underlying t with
    | some (.struct fs) => match fs[f]? with
      | some fd => match P.underlying fd.type, P.info? fd.type with
        | some _, some i => if aggT P fd.type then opFieldN fd.offset i.size (ev G Γ x) else opField fd.offset (ev G Γ x)
        | _, _ => fail
      | none => fail
    | _ => fail
  | .indexAddr t x i => match P.underlying t with
    | some (.slice e) => match P.info? e with
      | some inf => opIndexAddr inf.size (ev G Γ x) (ev G Γ i)
      | none => fail
    | some (.array n e) => match P.info? e with
      | some inf => opIndexAddrA n inf.size (ev G Γ x) (ev G Γ i)
      | none => fail
    | _ => fail
  | .index t x i => match P.underlying t with
    | some (.array n e) => match P.underlying e, P.info? e with
      | some _, some inf => if aggT P e then fail else if inf.size = 1 then opIndexA n (ev G Γ x) (ev G Γ i) else fail
      | _, _ => fail
    | some .string => opIndexS (ev G Γ x) (ev G Γ i)
    | _ => fail
  | .extract x i => opExtract (ev G Γ x) i
  | .call c => match c.callee with
    | .value f => opCall E (ev G Γ f) (c.args.toList.map (ev G Γ))
    | .builtin .len => match c.argTypes.toList, c.args.toList with
      | [t], [x] => (match P.underlying t with
        | some .string => opLenS (ev G Γ x)
        | some (.slice _) => opLen (ev G Γ x)
        | _ => fail)
      | _, _ => fail
    | .builtin .max => opMax (c.args.toList.map (ev G Γ))
    | .builtin .min => opMin (c.args.toList.map (ev G Γ))
    | .builtin .append => match c.argTypes.toList, c.args.toList with
      | [t, u], [s, x] => (match P.underlying t, P.underlying u with
        | some (.slice e), some (.slice _) => (match P.info? e, zeroL P e with
          | some i, some _ => if i.size = 0 then fail else opAppend i.size i.bytes (ev G Γ s) (ev G Γ x)
          | _, _ => fail)
        | _, _ => fail)
      | _, _ => fail
    | _ => fail
  | .makeMap t none => match mapN P t with
    | some (n, _) => opMakeMap n
    | none => fail
  | .lookup t m k ok => match mapN P t with
    | some (n, z) => opLookup n z ok (ev G Γ m) (ev G Γ k)
    | none => fail
  | .insert t m k x => match mapN P t with
    | some (n, _) => opInsert n (ev G Γ m) (ev G Γ k) (ev G Γ x)
    | none => fail
  | .mapUpdate t m k x => match mapN P t with
    | some (n, _) => opInsert n (ev G Γ m) (ev G Γ k) (ev G Γ x)
    | none => fail
  | _ => fail

end Go.Fw
