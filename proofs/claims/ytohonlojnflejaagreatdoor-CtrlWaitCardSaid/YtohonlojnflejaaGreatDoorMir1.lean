/- The mirror: an evaluator of a loaded program over an abstract heap (handles in the place of blocks, grown slices without a known capacity). Definitions alone. -/
import GoSem.Dispatch
import GoSem.Machine.Exec
namespace Go.Mir

/-- Names of the mirror's blocks. -/
inductive Pos where
  | one
  | z (p : Pos)
  | o (p : Pos)
  deriving DecidableEq, Inhabited

def Pos.succ : Pos → Pos
  | .one => .z .one
  | .z p => .o p
  | .o p => .z p.succ

def Pos.toNat : Pos → Nat
  | .one => 1
  | .z p => 2 * p.toNat
  | .o p => 2 * p.toNat + 1

/-- A finite map from names. -/
inductive Tr (α : Type) where
  | nil
  | node (v : Option α) (l r : Tr α)
  deriving Inhabited

def Tr.get {α : Type} : Tr α → Pos → Option α
  | .nil, _ => none
  | .node v _ _, .one => v
  | .node _ l _, .z p => l.get p
  | .node _ _ r, .o p => r.get p

def Tr.set {α : Type} : Tr α → Pos → Option α → Tr α
  | .nil, .one, x => .node x .nil .nil
  | .nil, .z p, x => .node none (Tr.set .nil p x) .nil
  | .nil, .o p, x => .node none .nil (Tr.set .nil p x)
  | .node _ l r, .one, x => .node x l r
  | .node v l r, .z p, x => .node v (l.set p x) r
  | .node v l r, .o p, x => .node v l (r.set p x)

/-- Numbers that hang on what is not known. -/
inductive SE where
  | var (i : Nat)
  | lit (n : Int)
  | bin (op : BinOp) (k : IntKind) (a b : SE)
  | wrap (k : IntKind) (a : SE)
  | mm (mx : Bool) (a b : SE)
  | app (f : Nat) (a b c : SE)
  deriving Inhabited

/-- Truth values that hang on what is not known. -/
inductive SB where
  | lit (b : Bool)
  | cmp (op : BinOp) (a b : SE)
  | not (b : SB)
  | beq (a b : SB)
  | and (a b : SB)
  deriving Inhabited

/-- Bytes as a number; a number as bytes. -/
def enc : List UInt8 → Int
  | [] => 0
  | b :: l => (b.toNat : Int) + 1 + 257 * enc l
def decN : Nat → Nat → List UInt8
  | 0, _ => []
  | f + 1, n => match n with
    | 0 => []
    | m + 1 => UInt8.ofNat ((m + 1) % 257 - 1) :: decN f ((m + 1) / 257)
def dec (n : Int) : List UInt8 := decN n.toNat n.toNat

/-- Where a byte stands first. -/
def idxB : List UInt8 → UInt8 → Int
  | [], _ => -1
  | b :: l, c => if b == c then 0 else if idxB l c == -1 then -1 else idxB l c + 1

/-- What the unknown is: numbers; functions of numbers; where the slices that came in lie, and how many elements they have. -/
structure Val where
  v : Nat → Int
  app : Nat → Int → Int → Int → Int
  arr : Nat → Option Addr × Nat

/-- Functions of numbers: of texts as numbers (20: length, 21: a byte, 22: one behind another, 23: a part, 24: the same?, 25: of one byte, 26: where a byte stands first); a sum's upper part, its lower one (30, 31); any other. -/
def appV (σ : Val) (f : Nat) (a b c : Int) : Int :=
  match f with
  | 20 => ((dec a).length : Int)
  | 21 => (match (dec a)[b.toNat]? with | some x => (x.toNat : Int) | none => 0)
  | 22 => enc (dec a ++ dec b)
  | 23 => enc (((dec a).take c.toNat).drop b.toNat)
  | 24 => (match dec a == dec b with | true => 1 | false => 0)
  | 25 => enc [UInt8.ofNat a.toNat]
  | 26 => idxB (dec a) b.toNat.toUInt8
  | 30 => (a + b + c) / 18446744073709551616
  | 31 => (a + b + c) % 18446744073709551616
  | f => σ.app f a b c

def binV (op : BinOp) (k : IntKind) (x y : Int) : Int :=
  match op with
  | .add => k.wrap (x + y)
  | .sub => k.wrap (x - y)
  | .mul => k.wrap (x * y)
  | .quo => k.wrap (x.tdiv y)
  | .rem => x.tmod y
  | .and => k.wrap (BitVec.ofInt k.bits x &&& BitVec.ofInt k.bits y).toNat
  | .or => k.wrap (BitVec.ofInt k.bits x ||| BitVec.ofInt k.bits y).toNat
  | .xor => k.wrap (BitVec.ofInt k.bits x ^^^ BitVec.ofInt k.bits y).toNat
  | .andNot => k.wrap (BitVec.ofInt k.bits x &&& ~~~BitVec.ofInt k.bits y).toNat
  | .shl => k.wrap (x * 2 ^ (min y.toNat k.bits))
  | .shr => x.fdiv (2 ^ (min y.toNat k.bits))
  | _ => 0

def cmpV (op : BinOp) (x y : Int) : Bool :=
  match op with
  | .eql => x == y
  | .neq => x != y
  | .lss => decide (x < y)
  | .leq => decide (x ≤ y)
  | .gtr => decide (x > y)
  | .geq => decide (x ≥ y)
  | _ => false

def mmV (mx : Bool) (x y : Int) : Int := if mx = true then (if y > x then y else x) else (if y < x then y else x)

def SE.eval (σ : Val) : SE → Int
  | .var i => σ.v i
  | .lit n => n
  | .bin op k a b => binV op k (a.eval σ) (b.eval σ)
  | .wrap k a => k.wrap (a.eval σ)
  | .mm mx a b => mmV mx (a.eval σ) (b.eval σ)
  | .app f a b c => appV σ f (a.eval σ) (b.eval σ) (c.eval σ)

def SB.eval (σ : Val) : SB → Bool
  | .lit b => b
  | .cmp op a b => cmpV op (a.eval σ) (b.eval σ)
  | .not b => !b.eval σ
  | .beq a b => a.eval σ == b.eval σ
  | .and a b => a.eval σ && b.eval σ

def eqInt : Int → Int → Bool
  | .ofNat a, .ofNat b => Nat.beq a b
  | .negSucc a, .negSucc b => Nat.beq a b
  | _, _ => false

def eqOp (a b : BinOp) : Bool := Nat.beq a.ctorIdx b.ctorIdx
def eqKind (a b : IntKind) : Bool := Nat.beq a.ctorIdx b.ctorIdx

def eqSE : SE → SE → Bool
  | .var i, .var j => Nat.beq i j
  | .lit m, .lit n => eqInt m n
  | .bin op k a b, .bin op' k' a' b' => eqOp op op' && (eqKind k k' && (eqSE a a' && eqSE b b'))
  | .wrap k a, .wrap k' a' => eqKind k k' && eqSE a a'
  | .mm true a b, .mm true a' b' => eqSE a a' && eqSE b b'
  | .mm false a b, .mm false a' b' => eqSE a a' && eqSE b b'
  | .app f a b c, .app f' a' b' c' => Nat.beq f f' && (eqSE a a' && (eqSE b b' && eqSE c c'))
  | _, _ => false

def eqSB : SB → SB → Bool
  | .lit true, .lit true => true
  | .lit false, .lit false => true
  | .cmp op a b, .cmp op' a' b' => eqOp op op' && (eqSE a a' && eqSE b b')
  | .not a, .not b => eqSB a b
  | .beq a b, .beq a' b' => eqSB a a' && eqSB b b'
  | .and a b, .and a' b' => eqSB a a' && eqSB b b'
  | _, _ => false

/-- What is taken of the unknown. -/
structure Asm where
  es : List (SE × SE)
  bs : List (SB × Bool)

def Asm.none : Asm := ⟨[], []⟩

def lookE (e : SE) : List (SE × SE) → SE
  | [] => e
  | p :: l => match eqSE p.1 e with
    | true => p.2
    | false => lookE e l
def lookB (e : SB) : List (SB × Bool) → Option Bool
  | [] => Option.none
  | p :: l => match eqSB p.1 e with
    | true => some p.2
    | false => lookB e l

/-- The mirror's values. 'sl': a slice whose capacity is known; 'gsl': one that append made: from element 'eo' on. -/
inductive MV where
  | bool (b : Bool)
  | int (k : IntKind) (n : Int)
  | str (s : List UInt8)
  | nilPtr
  | ptr (h : Pos) (off : Nat)
  | nilSl
  | sl (h : Pos) (off len cap : Nat)
  | gsl (h : Pos) (eo len : Nat)
  | nilMap
  | map (h : Pos)
  | nilFunc
  | func (fn : Fn) (first captured : List MV)
  | nilIface
  | iface (t : TypeId) (v : MV)
  | agg (cs : List MV)
  | tuple (vs : List MV)
  | sx (k : IntKind) (e : SE)
  | sb (b : SB)
  | ustr (e : SE)
  | usl (a : Nat) (n : SE)
  | uptr (a sz : Nat) (i : SE) (off : Nat)
  deriving Inhabited

def MV.undef : MV := .tuple []

def MV.cells : MV → List MV
  | .agg cs => cs
  | v => [v]

/-- May it lie in one cell? -/
def MV.one : MV → Bool
  | .agg _ | .tuple _ => false
  | _ => true

/-- The mirror's blocks. 'grow': what append made: the cells that are known; 'sz': cells of an element. 'ro': of what came in: read alone. -/
inductive MO where
  | cells (cs : List MV)
  | ro (cs : List MV)
  | grow (cs : List MV) (sz : Nat)
  | map (es : List (MV × MV × Nat)) (clock : Nat)
  | mapIter (m : Option Pos) (since : Nat) (seen : List Nat) (stepped : Nat)
  deriving Inhabited

structure MS where
  next : Pos
  objs : Tr MO
  deriving Inhabited

def MS.get (s : MS) (h : Pos) : Option MO := s.objs.get h
def MS.put (s : MS) (h : Pos) (o : MO) : MS := { s with objs := s.objs.set h (some o) }
def MS.kill (s : MS) (h : Pos) : MS := { s with objs := s.objs.set h none }
def MS.add (s : MS) (o : MO) : MS := { next := s.next.succ, objs := s.objs.set s.next (some o) }

/-- A value without addresses. -/
def ofValue : Nat → Value → Option MV
  | 0, _ => none
  | n + 1, v => match v with
    | .bool b => some (.bool b)
    | .int k x => some (.int k x)
    | .string s => some (.str s.data.toList)
    | .pointer none => some .nilPtr
    | .slice none 0 0 => some .nilSl
    | .map none => some .nilMap
    | .nilFunc => some .nilFunc
    | .nilIface => some .nilIface
    | .iface t x => (ofValue n x).map (.iface t)
    | .agg cs => (cs.toList.mapM (ofValue n)).map .agg
    | .tuple cs => (cs.toList.mapM (ofValue n)).map .tuple
    | _ => none

def fuelV : Nat := 40

/-- Cells of a block from 'off' on. -/
def MO.read : MO → Nat → Nat → Option (List MV)
  | .cells cs, off, n | .ro cs, off, n | .grow cs _, off, n => if off + n ≤ cs.length then some ((cs.drop off).take n) else none
  | _, _, _ => none

def splice (cs : List MV) (off : Nat) (vs : List MV) : List MV := cs.take off ++ vs ++ cs.drop (off + vs.length)

def MO.write : MO → Nat → List MV → Option MO
  | .cells cs, off, vs => if 0 < vs.length ∧ off + vs.length ≤ cs.length ∧ vs.all MV.one = true then some (.cells (splice cs off vs)) else none
  | .grow cs sz, off, vs => if 0 < vs.length ∧ off + vs.length ≤ cs.length ∧ vs.all MV.one = true then some (.grow (splice cs off vs) sz) else none
  | _, _, _ => none

def MS.load (s : MS) (h : Pos) (off n : Nat) : Option (List MV) := (s.get h).bind (·.read off n)
def MS.store (s : MS) (h : Pos) (off : Nat) (vs : List MV) : Option MS := ((s.get h).bind (·.write off vs)).map (s.put h ·)

section
variable (P : Program)

def isAggT (t : TypeId) : Option Bool :=
  match P.underlying t with
  | some (.struct _) | some (.array _ _) => some true
  | some _ => some false
  | none => none

def sizeT (t : TypeId) : Option Nat := (P.info? t).map (·.size)
def zeroT (t : TypeId) : Option MV := ((P.info? t).bind (·.zero)).bind (ofValue fuelV)

def MO.read1 : MO → Nat → Option MV
  | .cells cs, off | .ro cs, off | .grow cs _, off => cs[off]?
  | _, _ => none

def mLoad (t : TypeId) (x : MV) (s : MS) : Option MV :=
  match x with
  | .ptr h off =>
    match s.get h with
    | none => none
    | some b =>
      match isAggT P t with
      | none => none
      | some false => b.read1 off
      | some true => (sizeT P t).bind fun n => (b.read off n).map .agg
  | _ => none

def MO.write1 : MO → Nat → MV → Option MO
  | .cells cs, off, v => if off < cs.length then some (.cells (cs.set off v)) else none
  | .grow cs sz, off, v => if off < cs.length then some (.grow (cs.set off v) sz) else none
  | _, _, _ => none

def mStore (t : TypeId) (x v : MV) (s : MS) : Option MS :=
  match x with
  | .ptr h off =>
    match v with
    | .agg cs => match sizeT P t with
      | none => none
      | some n => if cs.length = n then s.store h off cs else none
    | .tuple _ => none
    | v => match sizeT P t, s.get h with
      | some 1, some b => (b.write1 off v).map (s.put h ·)
      | _, _ => none
  | _ => none

def mFieldAddr (t : TypeId) (x : MV) (f : Nat) : Option MV :=
  match P.underlying t, x with
  | some (.struct fs), .ptr h off =>
    match fs[f]? with
    | none => none
    | some f => match sizeT P f.type with
      | some (_ + 1) => some (.ptr h (off + f.offset))
      | _ => none
  | _, _ => none

def mPart (t : TypeId) (cs : List MV) (off : Nat) : Option MV := do
  if ← isAggT P t then
    let n ← sizeT P t
    some (.agg ((cs.take (off + n)).drop off))
  else cs[off]?

def mField (t : TypeId) (x : MV) (f : Nat) : Option MV :=
  match P.underlying t, x with
  | some (.struct fs), .agg cs => do
    let f ← fs[f]?
    mPart P f.type cs f.offset
  | _, _ => none

def mIndexAddr (t : TypeId) (x i : MV) (s : MS) : Option MV :=
  match i with
  | .int _ i =>
    match P.underlying t, x with
    | some (.array len e), .ptr h off => do
      if 0 ≤ i ∧ i < (len : Int) then some (.ptr h (off + i.toNat * (← sizeT P e))) else none
    | some (.slice e), .sl h off len _ => do
      if 0 ≤ i ∧ i < (len : Int) then some (.ptr h (off + i.toNat * (← sizeT P e))) else none
    | some (.slice e), .gsl h eo len => do
      let .grow _ sz ← s.get h | none
      let n ← sizeT P e
      if 0 ≤ i ∧ i < (len : Int) ∧ n = sz then some (.ptr h ((eo + i.toNat) * sz)) else none
    | _, _ => none
  | _ => none

def mIndex (t : TypeId) (x i : MV) : Option MV :=
  match i with
  | .int _ i =>
    match P.underlying t, x with
    | some (.array len e), .agg cs => do
      if 0 ≤ i ∧ i < (len : Int) then mPart P e cs (i.toNat * (← sizeT P e)) else none
    | some .string, .str b =>
      if 0 ≤ i then (b[i.toNat]?).map fun c => .int .u8 (c.toNat : Int) else none
    | _, _ => none
  | _ => none

def bnd (x : Option MV) (d m : Nat) : Option Nat :=
  match x with
  | none => some d
  | some (.int _ i) => if 0 ≤ i ∧ i ≤ (m : Int) then some i.toNat else none
  | _ => none

def bndHi (hi mx : Option MV) (len m : Nat) : Option Nat :=
  match hi, mx with
  | none, some _ => none
  | hi, _ => bnd hi len m

def mSlice (t : TypeId) (x : MV) (lo hi mx : Option MV) (s : MS) : Option MV :=
  match P.underlying t, x with
  | some (.array n e), .ptr h off => do
    let m ← bnd mx n n
    let hh ← bndHi hi mx n m
    let l ← bnd lo 0 hh
    let sz ← sizeT P e
    some (.sl h (if m = l then off else off + l * sz) (hh - l) (m - l))
  | some .string, .str b => do
    if mx.isSome then none else
    let hh ← bnd hi b.length b.length
    let l ← bnd lo 0 hh
    some (.str ((b.take hh).drop l))
  | some (.slice e), .sl h off len cap => do
    let m ← bnd mx cap cap
    let hh ← bndHi hi mx len m
    let l ← bnd lo 0 hh
    let sz ← sizeT P e
    some (.sl h (if m = l then off else off + l * sz) (hh - l) (m - l))
  | some (.slice e), .gsl h eo len => do
    if mx.isSome then none else
    let hh ← bnd hi len len
    let l ← bnd lo 0 hh
    let sz ← sizeT P e
    let .grow _ sz' ← s.get h | none
    if sz = sz' then some (.gsl h (eo + l) (hh - l)) else none
  | some (.slice e), .nilSl => do
    if mx.isSome then none else
    let hh ← bnd hi 0 0
    let l ← bnd lo 0 hh
    let _ ← sizeT P e
    if l = 0 ∧ hh = 0 then some .nilSl else none
  | _, _ => none

/-- The cells of a slice's or a string's elements. -/
def elems (x : MV) (sz : Nat) (s : MS) : Option (Nat × List MV) :=
  match x with
  | .nilSl => some (0, [])
  | .sl h off len _ => do
    if len = 0 then some (0, []) else
    let cs ← s.load h off (len * sz)
    some (len, cs)
  | .gsl h eo len => do
    if len = 0 then some (0, []) else
    let .grow _ sz' ← s.get h | none
    if sz' ≠ sz then none else
    let cs ← s.load h (eo * sz) (len * sz)
    some (len, cs)
  | .str b => if sz = 1 then some (b.length, b.map fun c => .int .u8 (c.toNat : Int)) else none
  | _ => none

def lenOf : MV → Option Nat
  | .nilSl => some 0
  | .sl _ _ len _ | .gsl _ _ len => some len
  | .str b => some b.length
  | _ => none

def isIntD : TypeDesc → Bool
  | .int _ => true
  | _ => false

def capOk (i : TypeInfo) (k : Nat) : Bool := decide (k * i.bytes ≤ 2 ^ 47) && decide (0 < i.bytes)

def mAppend (ts : Array TypeId) (x y : MV) (s : MS) : Option (MV × MS) :=
  match ts[0]? with
  | none => none
  | some t =>
  match P.underlying t with
  | some (.slice e) => do
    let i ← P.info? e
    let sz := i.size
    let zv ← zeroT P e
    if zv.cells.length ≠ sz then none else
    let d ← (ts[1]?).bind fun u => P.underlying u
    if isIntD d = true then none else
    let (n, new) ← elems y sz s
    if n = 0 then (match x with | .nilSl | .sl .. | .gsl .. => some (x, s) | _ => none) else
    if new.all MV.one = false then none else
    match x with
    | .sl h off len cap =>
      if len + n ≤ cap then
        (s.store h (off + len * sz) new).map fun s' => (.sl h off (len + n) cap, s')
      else do
        let (_, old) ← elems x sz s
        if capOk i (len + n) = false then none else
        some (.gsl s.next 0 (len + n), s.add (.grow (old ++ new) sz))
    | .nilSl =>
      if capOk i n = false then none else
      some (.gsl s.next 0 n, s.add (.grow new sz))
    | .gsl h _ len => do
      let .grow _ sz' ← s.get h | none
      if sz' ≠ sz then none else
      let (_, old) ← elems x sz s
      if capOk i (len + n) = false then none else
      some (.gsl s.next 0 (len + n), (s.kill h).add (.grow (old ++ new) sz))
    | _ => none
  | _ => none

def mCopy (ts : Array TypeId) (x y : MV) (s : MS) : Option (MV × MS) :=
  match ts[0]? with
  | none => none
  | some t =>
  match P.underlying t with
  | some (.slice e) => do
    let sz ← sizeT P e
    let dLen ← (match x with | .str _ => none | _ => lenOf x)
    let (k, all) ← elems y sz s
    let n := Nat.min k dLen
    let cs := all.take (n * sz)
    if n = 0 then some (.int .i64 0, s) else
    match x with
    | .sl h off _ _ => (s.store h off cs).map fun s' => (.int .i64 (n : Int), s')
    | .gsl h eo _ => do
      let .grow _ sz' ← s.get h | none
      if sz' ≠ sz then none else
      (s.store h (eo * sz) cs).map fun s' => (.int .i64 (n : Int), s')
    | _ => none
  | _ => none

/-- Two keys: alike? (numbers, strings, bools) -/
def sameKey : MV → MV → Option Bool
  | .int k a, .int k' b => if k = k' then some (a == b) else none
  | .str a, .str b => some (a == b)
  | .bool a, .bool b => some (a == b)
  | _, _ => none

def findKey (k : MV) : List (MV × MV × Nat) → Nat → Option (Option (Nat × MV × Nat))
  | [], _ => some none
  | (k', v, b) :: es, i =>
    match sameKey k k' with
    | some true => some (some (i, v, b))
    | some false => findKey k es (i + 1)
    | none => none

/-- A key's type: numbers, strings, bools alone; the key fits. -/
def keyOk (t : TypeId) (k : MV) : Bool :=
  match P.underlying t, k with
  | some (.int _), .int _ _ | some .string, .str _ | some .bool, .bool _ => true
  | _, _ => false

def mLookup (t : TypeId) (x k : MV) (ok : Bool) (s : MS) : Option MV :=
  match P.underlying t with
  | some (.map kt et) => do
    if keyOk P kt k then
      let es ← (match x with
        | .nilMap => some []
        | .map h => (match s.get h with | some (.map es _) => some es | _ => none)
        | _ => none)
      let r ← findKey k es 0
      let (v, there) ← (match r with
        | some (_, v, _) => some (v, true)
        | none => (zeroT P et).map (·, false))
      some (if ok then .tuple [v, .bool there] else v)
    else none
  | _ => none

def setAt {α : Type} (l : List α) (i : Nat) (x : α) : List α := l.set i x

def mMapUpdate (t : TypeId) (x k v : MV) (s : MS) : Option MS :=
  match P.underlying t, x with
  | some (.map kt _), .map h =>
    if keyOk P kt k then
      match s.get h with
      | some (.map es clock) => do
        match ← findKey k es 0 with
        | some (i, _, b) => some (s.put h (.map (es.set i (k, v, b)) clock))
        | none => some (s.put h (.map (es ++ [(k, v, clock)]) (clock + 1)))
      | _ => none
    else none
  | _, _ => none

def mMapEntry (t : TypeId) (x k : MV) (s : MS) : Option (MV × MS) :=
  match P.underlying t, x with
  | some (.map kt et), .map h =>
    if keyOk P kt k then
      match s.get h with
      | some (.map es clock) => do
        match ← findKey k es 0 with
        | some (i, v, b) => some (.tuple [v, .int .i64 (b : Int)], s.put h (.map (es.set i (k, v, b)) clock))
        | none =>
          let z ← zeroT P et
          some (.tuple [z, .int .i64 (clock : Int)], s.put h (.map (es ++ [(k, z, clock)]) (clock + 1)))
      | _ => none
    else none
  | _, _ => none

def findBorn (b : Int) : List (MV × MV × Nat) → Nat → Option (Nat × MV × Nat)
  | [], _ => none
  | (k, _, c) :: es, i => if (c : Int) == b then some (i, k, c) else findBorn b es (i + 1)

def mEntryStore (x stamp v : MV) (s : MS) : Option MS :=
  match x, stamp with
  | .map h, .int _ b =>
    match s.get h with
    | some (.map es clock) => do
      let (i, k, c) ← findBorn b es 0
      some (s.put h (.map (es.set i (k, v, c)) clock))
    | _ => none
  | _, _ => none

def mDelete (ts : Array TypeId) (x k : MV) (s : MS) : Option (MV × MS) :=
  match ts[0]? with
  | none => none
  | some t =>
  match P.underlying t, x with
  | some (.map kt _), .map h =>
    if keyOk P kt k then
      match s.get h with
      | some (.map es clock) => do
        match ← findKey k es 0 with
        | some (i, _) => some (.tuple [], s.put h (.map (es.eraseIdx i) clock))
        | none => some (.tuple [], s)
      | _ => none
    else none
  | some (.map kt _), .nilMap => if keyOk P kt k then some (.tuple [], s) else none
  | _, _ => none

def mRange (t : TypeId) (x : MV) (s : MS) : Option (MV × MS) :=
  match P.underlying t, x with
  | some (.map _ _), .nilMap => some (.ptr s.next 0, s.add (.mapIter none 0 [] 0))
  | some (.map _ _), .map h =>
    match s.get h with
    | some (.map _ clock) => some (.ptr s.next 0, s.add (.mapIter (some h) clock [] clock))
    | _ => none
  | _, _ => none

/-- All that may come next. -/
def mNext (x : MV) (s : MS) : Option (List (MV × MS)) :=
  match x with
  | .ptr h 0 =>
    match s.get h with
    | some (.mapIter none _ _ _) => some [(.tuple [.bool false], s)]
    | some (.mapIter (some m) since seen last) =>
      match s.get m with
      | some (.map es clock) =>
        if !seen.isEmpty && !es.isEmpty && es.all (fun e => decide (e.2.2 ≥ last)) then none else
        let left := es.filter fun e => !seen.contains e.2.2
        let old := left.filter fun e => decide (e.2.2 < since)
        let new := left.filter fun e => decide (e.2.2 ≥ since)
        let over : List (MV × MS) := if old.isEmpty then [(.tuple [.bool false], s.kill h)] else []
        some (over ++ (old ++ new).map fun e => (.tuple [.bool true, e.1, e.2.1], s.put h (.mapIter (some m) since (seen ++ [e.2.2]) clock)))
      | _ => none
    | _ => none
  | _ => none

def mEntry (x : MV) (s : MS) : Option MV :=
  match x with
  | .ptr h 0 =>
    match s.get h with
    | some (.mapIter (some m) _ seen stepped) =>
      match seen.getLast?, s.get m with
      | some b, some (.map es clock) =>
        if clock ≠ stepped then none else
        (findBorn (b : Int) es 0).bind fun r => (es[r.1]?).map fun e => .tuple [e.1, e.2.1]
      | _, _ => none
    | _ => none
  | _ => none

def mMakeSlice (t : TypeId) (l c : MV) (s : MS) : Option (MV × MS) :=
  match P.underlying t, l, c with
  | some (.slice e), .int _ l, .int _ c => do
    let i ← P.info? e
    let zv ← zeroT P e
    if 0 ≤ l ∧ l ≤ c ∧ c * i.bytes ≤ 2 ^ 47 ∧ c ≤ 1000000 ∧ zv.cells.length = i.size ∧ i.size ≠ 0 then
      some (.sl s.next 0 l.toNat c.toNat, s.add (.cells ((List.replicate c.toNat zv.cells).flatten)))
    else none
  | _, _, _ => none

def fillM (place : Nat → Option (Nat × Nat)) (cells : List MV) : List (Nat × MV) → Option (List MV)
  | [] => some cells
  | (i, v) :: rest =>
    match place i with
    | none => none
    | some (off, size) =>
      if v.cells.length = size ∧ off + size ≤ cells.length then fillM place (splice cells off v.cells) rest else none

def placesM : List Field → Option (List (Nat × Nat))
  | [] => some []
  | f :: fs => match sizeT P f.type with
    | none => none
    | some n => match placesM fs with
      | none => none
      | some l => some ((f.offset, n) :: l)

def mBuild (t : TypeId) (parts : List (Nat × MV)) : Option MV := do
  let z := (← zeroT P t).cells
  match P.underlying t with
  | some (.struct fs) =>
    let places ← placesM P fs.toList
    let r ← fillM (places[·]?) z parts
    some (.agg r)
  | some (.array _ e) =>
    let sz ← sizeT P e
    let r ← fillM (fun i => some (i * sz, sz)) z parts
    some (.agg r)
  | _ => none

def mBuildSlice (t : TypeId) (len : Nat) (parts : List (Nat × MV)) (s : MS) : Option (MV × MS) :=
  match P.underlying t with
  | some (.slice e) => do
    let sz ← sizeT P e
    let zv ← zeroT P e
    if zv.cells.length = sz ∧ len * sz ≤ 2 ^ 24 ∧ sz ≠ 0 then
      let cs ← fillM (fun i => some (i * sz, sz)) ((List.replicate len zv.cells).flatten) parts
      if cs.all MV.one then some (.sl s.next 0 len len, s.add (.cells cs)) else none
    else none
  | _ => none

def toU8 : MV → Option UInt8
  | .int .u8 n => some (UInt8.ofNat n.toNat)
  | _ => none

def mConvert (src dst : TypeId) (x : MV) (s : MS) : Option (MV × MS) :=
  match P.underlying src, P.underlying dst, x with
  | some _, some (.int k), .int _ n => some (.int k (k.wrap n), s)
  | some _, some .string, .int _ n => some (.str (Utf8.encode n).data.toList, s)
  | some _, some .string, .str b => some (.str b, s)
  | some _, some (.slice e), .str b =>
    match P.underlying e with
    | some (.int .u8) => some (.gsl s.next 0 b.length, s.add (.grow (b.map fun c => .int .u8 (c.toNat : Int)) 1))
    | _ => none
  | some (.slice e), some .string, x =>
    match P.underlying e with
    | some (.int .u8) => do
      match x with
      | .nilSl => some (.str [], s)
      | .sl .. | .gsl .. =>
        let (_, cs) ← elems x 1 s
        let b ← cs.mapM toU8
        some (.str b, s)
      | _ => none
    | _ => none
  | _, _, _ => none

def eqFieldsM (eq : TypeId → MV → MV → Option Bool) (xs ys : List MV) : List Field → Option Bool
  | [] => some true
  | f :: fs =>
    if f.name ≠ "_" then
      match mPart P f.type xs f.offset with
      | none => none
      | some a => match mPart P f.type ys f.offset with
        | none => none
        | some b => match eq f.type a b with
          | none => none
          | some false => some false
          | some true => eqFieldsM eq xs ys fs
    else eqFieldsM eq xs ys fs

def eqElemsM (eq : TypeId → MV → MV → Option Bool) (e : TypeId) (n : Nat) (xs ys : List MV) : List Nat → Option Bool
  | [] => some true
  | i :: is =>
    match mPart P e xs (i * n) with
    | none => none
    | some a => match mPart P e ys (i * n) with
      | none => none
      | some b => match eq e a b with
        | none => none
        | some false => some false
        | some true => eqElemsM eq e n xs ys is

def mEqual : Nat → TypeId → MV → MV → Option Bool
  | 0, _, _, _ => none
  | d + 1, t, x, y =>
    match P.underlying t, x, y with
    | some .bool, .bool a, .bool b => some (a == b)
    | some (.int _), .int k a, .int k' b => if k = k' then some (a == b) else none
    | some .string, .str a, .str b => some (a == b)
    | some (.pointer _), .nilPtr, .nilPtr => some true
    | some (.pointer _), .nilPtr, .ptr _ _ => some false
    | some (.pointer _), .ptr _ _, .nilPtr => some false
    | some (.interface _), .nilIface, .nilIface => some true
    | some (.interface _), .nilIface, .iface _ _ => some false
    | some (.interface _), .iface _ _, .nilIface => some false
    | some (.struct fs), .agg xs, .agg ys => if P.stoodInHeld t = false then eqFieldsM P (mEqual d) xs ys fs.toList else none
    | some (.array len e), .agg xs, .agg ys =>
      match sizeT P e with
      | some n => eqElemsM P (mEqual d) e n xs ys (List.range' 0 len)
      | none => none
    | some (.slice _), .nilSl, .nilSl => some true
    | some (.slice _), .nilSl, .sl .. => some false
    | some (.slice _), .nilSl, .gsl .. => some false
    | some (.slice _), .sl .., .nilSl => some false
    | some (.slice _), .gsl .., .nilSl => some false
    | some (.map _ _), .nilMap, .nilMap => some true
    | some (.map _ _), .nilMap, .map _ => some false
    | some (.map _ _), .map _, .nilMap => some false
    | some (.func _ _ _), .nilFunc, .nilFunc => some true
    | some (.func _ _ _), .nilFunc, .func .. => some false
    | some (.func _ _ _), .func .., .nilFunc => some false
    | _, _, _ => none

def isConstO : Operand → Bool
  | .const _ => true
  | _ => false

def mIntOp (op : BinOp) (k : IntKind) (a b : Int) : Option MV :=
  match op with
  | .add => some (.int k (k.wrap (a + b)))
  | .sub => some (.int k (k.wrap (a - b)))
  | .mul => some (.int k (k.wrap (a * b)))
  | .quo => if b = 0 then none else some (.int k (k.wrap (a.tdiv b)))
  | .rem => if b = 0 then none else some (.int k (a.tmod b))
  | .and => some (.int k (k.wrap (BitVec.ofInt k.bits a &&& BitVec.ofInt k.bits b).toNat))
  | .or => some (.int k (k.wrap (BitVec.ofInt k.bits a ||| BitVec.ofInt k.bits b).toNat))
  | .xor => some (.int k (k.wrap (BitVec.ofInt k.bits a ^^^ BitVec.ofInt k.bits b).toNat))
  | .andNot => some (.int k (k.wrap (BitVec.ofInt k.bits a &&& ~~~ BitVec.ofInt k.bits b).toNat))
  | .eql => some (.bool (a == b))
  | .neq => some (.bool (a != b))
  | .lss => some (.bool (decide (a < b)))
  | .leq => some (.bool (decide (a ≤ b)))
  | .gtr => some (.bool (decide (a > b)))
  | .geq => some (.bool (decide (a ≥ b)))
  | _ => none

def bless : List UInt8 → List UInt8 → Bool
  | _, [] => false
  | [], _ :: _ => true
  | a :: x, b :: y => decide (a < b) || (a == b && bless x y)

def mStrOp (op : BinOp) (a b : List UInt8) : Option MV :=
  match op with
  | .add => if a.length + b.length ≤ 2 ^ 62 then some (.str (a ++ b)) else none
  | .eql => some (.bool (a == b))
  | .neq => some (.bool !(a == b))
  | .lss => some (.bool (bless a b))
  | .leq => some (.bool (bless a b || a == b))
  | .gtr => some (.bool !(bless a b || a == b))
  | .geq => some (.bool !(bless a b))
  | _ => none

/-- The guard of '==' lets them by. -/
def eqOk (t : TypeId) (x y : Operand) (a b : MV) : Bool :=
  match a, b with
  | .nilIface, .nilIface => isConstO x || isConstO y
  | .agg _, .agg _ => !P.eqGuardType P.depth t
  | _, _ => true

/-- Shapes at which '==' goes by the type. -/
def MV.plainEq : MV → Bool
  | .int .. | .str .. | .sx .. | .sb .. | .ustr .. | .usl .. | .uptr .. => false
  | _ => true

def mEqBin (neg : Bool) (t : TypeId) (x y : Operand) (a b : MV) : Option MV :=
  match a.plainEq with
  | false => none
  | true => match eqOk P t x y a b with
    | false => none
    | true => match mEqual P Op.maxDepth t a b with
      | some r => some (.bool (r != neg))
      | none => none

def mBin (op : BinOp) (t : TypeId) (x y : Operand) (a b : MV) : Option MV :=
  match op, a, b with
  | .shl, .int k a, .int _ b => if b < 0 then none else some (.int k (k.wrap (a * 2 ^ (min b.toNat k.bits))))
  | .shr, .int k a, .int _ b => if b < 0 then none else some (.int k (a.fdiv (2 ^ (min b.toNat k.bits))))
  | op, .int k a, .int k' b => if k = k' then mIntOp op k a b else none
  | op, .str a, .str b => mStrOp op a b
  | .eql, a, b => mEqBin P false t x y a b
  | .neq, a, b => mEqBin P true t x y a b
  | _, _, _ => none

def mUn (op : UnOp) (x : MV) : Option MV :=
  match op, x with
  | .neg, .int k n => some (.int k (k.wrap (0 - n)))
  | .xor, .int k n => some (.int k (k.wrap (BitVec.ofInt k.bits (if k.signed then -1 else k.max) ^^^ BitVec.ofInt k.bits n).toNat))
  | .not, .bool b => some (.bool !b)
  | _, _ => none

def mTypeAssert (x : MV) (asserted : TypeId) (ok : Bool) : Option MV :=
  match P.underlying asserted, x with
  | some (.interface _), _ => none
  | some _, .nilIface => if ok then (zeroT P asserted).map fun z => .tuple [z, .bool false] else none
  | some _, .iface t v =>
    if t = asserted then some (if ok then .tuple [v, .bool true] else v)
    else if ok then (zeroT P asserted).map fun z => .tuple [z, .bool false] else none
  | _, _ => none

/-- A method of a pointer type of its own. -/
def mMethod (t : TypeId) (name : String) : Option FuncId := do
  let i ← P.info? t
  let m ← i.methods.find? (·.name == name)
  if m.path.size = 0 then
    match m.func, P.underlying t with
    | some (f, true), some (.pointer _) => some f
    | _, _ => none
  else none

def mLen (ts : Array TypeId) (x : MV) (s : MS) : Option MV :=
  match ts[0]? with
  | none => none
  | some t =>
  match P.underlying t, x with
  | some .string, .str b => some (.int .i64 (b.length : Int))
  | some (.array n _), _ => some (.int .i64 (n : Int))
  | some (.slice _), .nilSl => some (.int .i64 0)
  | some (.slice _), .sl _ _ len _ | some (.slice _), .gsl _ _ len => some (.int .i64 (len : Int))
  | some (.map _ _), .nilMap => some (.int .i64 0)
  | some (.map _ _), .map h =>
    match s.get h with
    | some (.map es _) => some (.int .i64 (es.length : Int))
    | _ => none
  | some (.pointer a), _ => match P.underlying a with | some (.array n _) => some (.int .i64 (n : Int)) | _ => none
  | _, _ => none

def mm2 (mx : Bool) (a b : MV) : Option MV :=
  match a, b with
  | .int k x, .int _ y => some (.int k (if mx = true then (if y > x then y else x) else (if y < x then y else x)))
  | _, _ => none
def mmF (mx : Bool) : MV → List MV → Option MV
  | a, [] => some a
  | a, b :: l => match mm2 mx a b with
    | some c => mmF mx c l
    | none => none
def mMinMax (mx : Bool) : List MV → Option MV
  | [] => none
  | x :: rest => mmF mx x rest

def mClear (ts : Array TypeId) (x : MV) (s : MS) : Option (MV × MS) :=
  match ts[0]? with
  | none => none
  | some t =>
  match P.underlying t, x with
  | some _, .nilSl => some (.tuple [], s)
  | some (.slice e), .sl h off n _ => do
    let zv ← zeroT P e
    let sz ← sizeT P e
    if n = 0 then some (.tuple [], s) else
    if zv.cells.length ≠ sz then none else
    (s.store h off ((List.replicate n zv.cells).flatten)).map fun s' => (.tuple [], s')
  | some (.slice e), .gsl h eo n => do
    let zv ← zeroT P e
    let sz ← sizeT P e
    if n = 0 then some (.tuple [], s) else
    let .grow _ sz' ← s.get h | none
    if zv.cells.length ≠ sz ∨ sz' ≠ sz then none else
    (s.store h (eo * sz) ((List.replicate n zv.cells).flatten)).map fun s' => (.tuple [], s')
  | _, _ => none

/-- What one operation does: a value and a state; one of several; a call. -/
inductive MStep where
  | val (v : MV) (s : MS)
  | many (l : List (MV × MS))
  | call (f : FuncId) (args : List MV)

/-- The variables that are known: what this region wrote, the newest first; what is kept of the regions ahead of it. -/
structure Env where
  es : List (Nat × MV)
  rs : List (Nat × MV)

def find (t : Nat) (d : Option MV) : List (Nat × MV) → Option MV
  | [] => d
  | p :: l => match Nat.beq p.1 t with
    | true => some p.2
    | false => find t d l

def Env.look (E : Env) (t : Nat) : Option MV := find t (find t none E.rs) E.es

def Env.put (E : Env) (dst : Option Tmp) (v : MV) : Env :=
  match dst with
  | some d => ⟨(d, v) :: E.es, E.rs⟩
  | none => E

def setL (t : Nat) (v : MV) : List (Nat × MV) → List (Nat × MV)
  | [] => [(t, v)]
  | p :: l => match Nat.beq p.1 t with
    | true => (t, v) :: l
    | false => p :: setL t v l

/-- What of a region's variables stays. -/
def flush (keep : Nat) : List (Nat × MV) → List (Nat × MV) → List (Nat × MV)
  | [], rs => rs
  | p :: es, rs => match keep.testBit p.1 with
    | true => setL p.1 p.2 (flush keep es rs)
    | false => flush keep es rs

def opd (E : Env) : Operand → Option MV
  | .tmp t => E.look t
  | .const v => ofValue fuelV v
  | .func f => some (.func (.func f) [] [])
  | .global _ => none

def opds (E : Env) (xs : Array Operand) : Option (List MV) := xs.toList.mapM (opd E)
def opdO (E : Env) : Option Operand → Option (Option MV)
  | none => some none
  | some x => (opd E x).map some

/-- What a cell of a slice that came in holds. -/
inductive CK where
  | int (k : IntKind)
  | str
  | bool

/-- Functions of the base without a body: what they give; what the elements of slices that came in are; what is taken of the unknown. -/
structure Ext where
  fn : FuncId → Option (List MV → Option MV)
  dsc : Nat → Option (List CK)
  asm : Asm

/-- A condition that is known, or made of such. -/
def xorB (a b : Bool) : Bool := match a with
  | true => b
  | false => !b
/-- The other way about; the two sides changed. -/
def negOp : BinOp → BinOp
  | .eql => .neq
  | .neq => .eql
  | .lss => .geq
  | .geq => .lss
  | .gtr => .leq
  | .leq => .gtr
  | o => o
def flipOp : BinOp → BinOp
  | .lss => .gtr
  | .gtr => .lss
  | .leq => .geq
  | .geq => .leq
  | o => o
def isCmp : BinOp → Bool
  | .eql | .neq | .lss | .leq | .gtr | .geq => true
  | _ => false
def sameOp : BinOp → Bool
  | .eql | .leq | .geq => true
  | _ => false
def notO : Option Bool → Option Bool
  | some b => some (!b)
  | none => none
def lookC (op : BinOp) (a b : SE) (l : List (SB × Bool)) : Option Bool :=
  match isCmp op with
  | false => none
  | true => match eqSE a b with
    | true => some (sameOp op)
    | false => match lookB (.cmp op a b) l with
      | some c => some c
      | none => match notO (lookB (.cmp (negOp op) a b) l) with
        | some c => some c
        | none => match lookB (.cmp (flipOp op) b a) l with
          | some c => some c
          | none => notO (lookB (.cmp (negOp (flipOp op)) b a) l)
def lookN (l : List (SB × Bool)) : SB → Option Bool
  | .lit b => some b
  | .not b => match lookN l b with
    | some c => some (!c)
    | none => none
  | .beq a b => match lookN l a, lookN l b with
    | some x, some y => some (xorB x y)
    | _, _ => none
  | .and a b => match lookN l a with
    | some false => some false
    | some true => lookN l b
    | none => match lookN l b with
      | some false => some false
      | _ => none
  | .cmp op a b => lookC op a b l

/-- A number that is known by a condition. -/
def lookQ (e : SE) : List (SB × Bool) → Option Int
  | [] => none
  | p :: l => match p with
    | (.cmp .eql e' (.lit n), true) => match eqSE e' e with
      | true => some n
      | false => lookQ e l
    | _ => lookQ e l

/-- What is known of a value. -/
def known (A : Asm) : MV → MV
  | .sx k e => match lookE e A.es with
    | .lit n => .int k n
    | e' => match lookQ e' A.bs with
      | some n => .int k n
      | none => .sx k e'
  | .sb b => match lookN A.bs b with
    | some c => .bool c
    | none => .sb b
  | v => v

def MV.sym : MV → Bool
  | .sx .. | .sb .. | .ustr _ => true
  | _ => false
def seOf : MV → Option (IntKind × SE)
  | .int k n => some (k, .lit n)
  | .sx k e => some (k, e)
  | _ => none
def sbOf : MV → Option SB
  | .bool b => some (.lit b)
  | .sb b => some b
  | _ => none

/-- A text as a number. -/
def ssOf : MV → Option SE
  | .str l => some (.lit (enc l))
  | .ustr e => some e
  | _ => none

/-- Not below zero? Below, or as much? Below? -/
def lookGe (A : Asm) (e : SE) : Bool :=
  match lookB (.cmp .geq e (.lit 0)) A.bs with
  | some true => true
  | _ => match lookB (.cmp .lss e (.lit 0)) A.bs with
    | some false => true
    | _ => false
def lookLe (A : Asm) (x y : SE) : Bool :=
  match lookB (.cmp .leq x y) A.bs with
  | some true => true
  | _ => match lookB (.cmp .gtr x y) A.bs with
    | some false => true
    | _ => match lookB (.cmp .lss x y) A.bs with
      | some true => true
      | _ => false
def lookLt (A : Asm) (x y : SE) : Bool :=
  match lookB (.cmp .lss x y) A.bs with
  | some true => true
  | _ => match lookB (.cmp .geq x y) A.bs with
    | some false => true
    | _ => match lookB (.cmp .gtr y x) A.bs with
      | some true => true
      | _ => false
def geq0 (A : Asm) : SE → Bool
  | .lit n => decide (0 ≤ n)
  | .app f a b c => Nat.beq f 20 || lookGe A (.app f a b c)
  | .mm false a b => geq0 A a && geq0 A b
  | .mm true a b => geq0 A a || geq0 A b
  | .wrap k a => !k.signed || lookGe A (.wrap k a)
  | e => lookGe A e
def leqR (A : Asm) : SE → SE → Bool
  | .mm false a b, y => eqSE (.mm false a b) y || (leqR A a y || (leqR A b y || lookLe A (.mm false a b) y))
  | .lit m, .lit n => decide (m ≤ n)
  | x, y => eqSE x y || lookLe A x y
def lssR (A : Asm) : SE → SE → Bool
  | .lit m, .lit n => decide (m < n)
  | x, y => lookLt A x y

/-- How long a text is at most. -/
def lookLen (e : SE) : List (SB × Bool) → Option Nat
  | [] => none
  | p :: l => match p with
    | (.cmp .leq (.app 20 e' _ _) (.lit (.ofNat n)), true) => match eqSE e' e with
      | true => some n
      | false => lookLen e l
    | _ => lookLen e l
def lenLe (A : Asm) : SE → Option Nat
  | .lit n => some (dec n).length
  | .app f a b c => match Nat.beq f 22 with
    | true => match lenLe A a, lenLe A b with
      | some m, some n => some (m + n)
      | _, _ => none
    | false => match Nat.beq f 23 with
      | true => lenLe A a
      | false => match Nat.beq f 25 with
        | true => some 1
        | false => lookLen (.app f a b c) A.bs
  | e => lookLen e A.bs

/-- May it be divided by? -/
def nonZero (A : Asm) : SE → Bool
  | .lit n => !eqInt n 0
  | e => match lookB (.cmp .eql e (.lit 0)) A.bs with
    | some false => true
    | _ => false

def symInt (A : Asm) (op : BinOp) (k k' : IntKind) (x y : SE) : Option MV :=
  match op with
  | .shl | .shr => match geq0 A y with
    | true => some (.sx k (.bin op k x y))
    | false => none
  | .quo | .rem => match eqKind k k' && nonZero A y with
    | true => some (.sx k (.bin op k x y))
    | false => none
  | .add | .sub | .mul | .and | .or | .xor | .andNot => match eqKind k k' with
    | true => some (.sx k (.bin op k x y))
    | false => none
  | .eql | .neq | .lss | .leq | .gtr | .geq => match eqKind k k' with
    | true => some (.sb (.cmp op x y))
    | false => none

def symStr (A : Asm) (op : BinOp) (x y : SE) : Option MV :=
  match op with
  | .eql => some (.sb (.cmp .neq (.app 24 x y (.lit 0)) (.lit 0)))
  | .neq => some (.sb (.cmp .eql (.app 24 x y (.lit 0)) (.lit 0)))
  | .add => match lenLe A x, lenLe A y with
    | some m, some n => match Nat.ble (m + n) 4611686018427387904 with
      | true => some (.ustr (.app 22 x y (.lit 0)))
      | false => none
    | _, _ => none
  | _ => none

def symBin (A : Asm) (op : BinOp) (t : TypeId) (a b : MV) : Option MV :=
  match seOf a, seOf b with
  | some (k, x), some (k', y) => symInt A op k k' x y
  | _, _ => match sbOf a, sbOf b, P.underlying t with
    | some x, some y, some .bool => match op with
      | .eql => some (.sb (.beq x y))
      | .neq => some (.sb (.not (.beq x y)))
      | _ => none
    | _, _, _ => match ssOf a, ssOf b with
      | some x, some y => symStr A op x y
      | _, _ => none

/-- Both. -/
def andS : SB → SB → SB
  | .lit true, b => b
  | .lit false, _ => .lit false
  | a, .lit true => a
  | a, b => .and a b
def symFields (eq : TypeId → MV → MV → Option SB) (xs ys : List MV) : List Field → Option SB
  | [] => some (.lit true)
  | f :: fs =>
    if f.name ≠ "_" then
      match mPart P f.type xs f.offset with
      | none => none
      | some a => match mPart P f.type ys f.offset with
        | none => none
        | some b => match eq f.type a b with
          | none => none
          | some p => match symFields eq xs ys fs with
            | none => none
            | some q => some (andS p q)
    else symFields eq xs ys fs
def symElems (eq : TypeId → MV → MV → Option SB) (e : TypeId) (n : Nat) (xs ys : List MV) : List Nat → Option SB
  | [] => some (.lit true)
  | i :: is =>
    match mPart P e xs (i * n) with
    | none => none
    | some a => match mPart P e ys (i * n) with
      | none => none
      | some b => match eq e a b with
        | none => none
        | some p => match symElems eq e n xs ys is with
          | none => none
          | some q => some (andS p q)
def eqlS : SE → SE → SB
  | .lit m, .lit n => .lit (m == n)
  | x, y => .cmp .eql x y
def symEqual : Nat → TypeId → MV → MV → Option SB
  | 0, _, _, _ => none
  | d + 1, t, x, y =>
    match P.underlying t with
    | some .bool => match sbOf x, sbOf y with
      | some a, some b => some (.beq a b)
      | _, _ => none
    | some (.int _) => match seOf x, seOf y with
      | some (k, a), some (k', b) => match eqKind k k' with
        | true => some (eqlS a b)
        | false => none
      | _, _ => none
    | some .string => match x, y with
      | .str a, .str b => some (.lit (a == b))
      | x, y => match ssOf x, ssOf y with
        | some a, some b => some (.cmp .neq (.app 24 a b (.lit 0)) (.lit 0))
        | _, _ => none
    | some (.struct fs) => match x, y with
      | .agg xs, .agg ys => if P.stoodInHeld t = false then symFields P (symEqual d) xs ys fs.toList else none
      | _, _ => none
    | some (.array len e) => match x, y with
      | .agg xs, .agg ys => match sizeT P e with
        | some n => symElems P (symEqual d) e n xs ys (List.range' 0 len)
        | none => none
      | _, _ => none
    | _ => none
def symEqBin (op : BinOp) (t : TypeId) (x y : Operand) (a b : MV) : Option MV :=
  match a, b with
  | .agg p, .agg q => match eqOk P t x y (.agg p) (.agg q) with
    | false => none
    | true => match symEqual P Op.maxDepth t (.agg p) (.agg q) with
      | none => none
      | some e => match op with
        | .eql => some (.sb e)
        | .neq => some (.sb (.not e))
        | _ => none
  | _, _ => none
def orElseS : Option MV → Option MV → Option MV
  | some v, _ => some v
  | none, r => r

def symUn (op : UnOp) : MV → Option MV
  | .sx k e => match op with
    | .neg => some (.sx k (.bin .sub k (.lit 0) e))
    | .xor => some (.sx k (.bin .xor k (.lit (if k.signed then -1 else k.max)) e))
    | _ => none
  | .sb b => match op with
    | .not => some (.sb (.not b))
    | _ => none
  | _ => none

def symMM (A : Asm) (mx : Bool) : MV → List MV → Option MV
  | a, [] => some a
  | a, b :: l => match seOf a, seOf b with
    | some (k, x), some (_, y) => symMM A mx (known A (.sx k (.mm mx x y))) l
    | _, _ => none
def symMinMax (A : Asm) (mx : Bool) : List MV → Option MV
  | [] => none
  | x :: rest => symMM A mx x rest
def anySym : List MV → Bool
  | [] => false
  | v :: l => match v.sym with
    | true => true
    | false => anySym l

def mCallF (ext : Ext) (f : FuncId) (args : List MV) (s : MS) : Option MStep :=
  match P.funcs[f]? with
  | none => none
  | some fn =>
    match fn.body with
    | some _ => some (.call f args)
    | none => (ext.fn f).bind fun g => (g args).map fun v => .val v s

def pureS (x : Option MV) (s : MS) : Option MStep :=
  match x with
  | some v => some (.val v s)
  | none => none
def effS (x : Option (MV × MS)) : Option MStep :=
  match x with
  | some r => some (.val r.1 r.2)
  | none => none
def unitS (x : Option MS) : Option MStep :=
  match x with
  | some s => some (.val .undef s)
  | none => none

/-- The length of what is not known. -/
def uLen (ts : Array TypeId) (x : MV) : Option (Option MV) :=
  match x with
  | .usl _ n => match ts[0]? with
    | some t => match P.underlying t with
      | some (.slice _) => some (some (.sx .i64 n))
      | _ => some none
    | none => some none
  | .ustr e => match ts[0]? with
    | some t => match P.underlying t with
      | some .string => some (some (.sx .i64 (.app 20 e (.lit 0) (.lit 0))))
      | _ => some none
    | none => some none
  | _ => none
def hLen (A : Asm) (ts : Array TypeId) (x : MV) (s : MS) : Option MV :=
  match uLen P ts x with
  | some r => match r with
    | some v => some (known A v)
    | none => none
  | none => mLen P ts x s

/-- A cell of a slice that came in. -/
def CK.mv (a : Nat) (i : SE) (off : Nat) : CK → MV
  | .int k => .sx k (.app (100 + a) i (.lit off) (.lit 0))
  | .str => .ustr (.app (100 + a) i (.lit off) (.lit 0))
  | .bool => .sb (.cmp .neq (.app (100 + a) i (.lit off) (.lit 0)) (.lit 0))
def cellsU (A : Asm) (a : Nat) (i : SE) : Nat → List CK → List MV
  | _, [] => []
  | off, c :: l => known A (c.mv a i off) :: cellsU A a i (off + 1) l
def uLoad (ext : Ext) (t : TypeId) (a sz : Nat) (i : SE) (off : Nat) : Option MV :=
  match ext.dsc a with
  | none => none
  | some D => match Nat.beq D.length sz with
    | false => none
    | true => match isAggT P t with
      | none => none
      | some false => match D[off]? with
        | some c => some (known ext.asm (c.mv a i off))
        | none => none
      | some true => match sizeT P t with
        | none => none
        | some n => match Nat.ble (off + n) D.length with
          | true => some (.agg (cellsU ext.asm a i off ((D.drop off).take n)))
          | false => none

/-- An element of what is not known: where it lies; a byte; a part. -/
def uIndexAddr (A : Asm) (t : TypeId) (a : Nat) (n : SE) (i : MV) : Option MV :=
  match seOf i with
  | none => none
  | some (_, e) => match P.underlying t with
    | some (.slice el) => match sizeT P el with
      | none => none
      | some sz => match geq0 A e && lssR A e n with
        | true => some (.uptr a sz e 0)
        | false => none
    | _ => none
def uIndex (A : Asm) (t : TypeId) (e : SE) (i : MV) : Option MV :=
  match seOf i with
  | none => none
  | some (_, x) => match P.underlying t with
    | some .string => match geq0 A x && lssR A x (.app 20 e (.lit 0) (.lit 0)) with
      | true => some (known A (.sx .u8 (.app 21 e x (.lit 0))))
      | false => none
    | _ => none
def bndU (x : Option MV) (d : SE) : Option SE :=
  match x with
  | none => some d
  | some v => match seOf v with
    | some (_, e) => some e
    | none => none
def uSlice (A : Asm) (t : TypeId) (e : SE) (lo hi mx : Option MV) : Option MV :=
  match mx with
  | some _ => none
  | none => match P.underlying t with
    | some .string => match bndU lo (.lit 0), bndU hi (.app 20 e (.lit 0) (.lit 0)) with
      | some l, some h => match geq0 A l && (leqR A l h && leqR A h (.app 20 e (.lit 0) (.lit 0))) with
        | true => some (.ustr (.app 23 e l h))
        | false => none
      | _, _ => none
    | _ => none
def uFieldAddr (t : TypeId) (f : Nat) (a sz : Nat) (i : SE) (off : Nat) : Option MV :=
  match P.underlying t with
  | some (.struct fs) =>
    match fs[f]? with
    | none => none
    | some f => match sizeT P f.type with
      | some (_ + 1) => some (.uptr a sz i (off + f.offset))
      | _ => none
  | _ => none
def uText (e : TypeId) (d : TypeId) (l : List MV) : Option MV :=
  match P.underlying e, P.underlying d, l with
  | some (.int .u8), some .string, [.sx .u8 x] => some (.ustr (.app 25 x (.lit 0) (.lit 0)))
  | _, _, _ => none

def mBuiltin (A : Asm) (b : Builtin) (ts : Array TypeId) (args : List MV) (s : MS) : Option MStep :=
  match b, args with
  | .append, [x, y] => effS (mAppend P ts x y s)
  | .copy, [x, y] => effS (mCopy P ts x y s)
  | .len, [x] => pureS (hLen P A ts x s) s
  | .min, l => pureS (match anySym l with | true => symMinMax A false l | false => mMinMax false l) s
  | .max, l => pureS (match anySym l with | true => symMinMax A true l | false => mMinMax true l) s
  | .delete, [x, k] => effS (mDelete P ts x k s)
  | .clear, [x] => effS (mClear P ts x s)
  | _, _ => none

def mCall (ext : Ext) (c : Call) (E : Env) (s : MS) : Option MStep :=
  match opds E c.args with
  | none => none
  | some args =>
    match c.callee with
    | .builtin b => mBuiltin P ext.asm b c.argTypes args s
    | .value f =>
      match opd E f with
      | some (.func (.func f) first captured) => mCallF P ext f (first ++ args ++ captured) s
      | _ => none
    | .invoke r name =>
      match opd E r with
      | some (.iface t v) => match mMethod P t name with
        | some f => mCallF P ext f (v :: args) s
        | none => none
      | _ => none

def parts (E : Env) (ps : Array (Nat × Operand)) : Option (List (Nat × MV)) :=
  ps.toList.mapM fun p => (opd E p.2).map (p.1, ·)

/-- One operand, two, three: read, then handed on. -/
def on1 (x : Operand) (k : MV → MS → Option MStep) (E : Env) (s : MS) : Option MStep :=
  match opd E x with
  | some a => k a s
  | none => none
def on2 (x y : Operand) (k : MV → MV → MS → Option MStep) (E : Env) (s : MS) : Option MStep :=
  match opd E x with
  | some a => match opd E y with
    | some b => k a b s
    | none => none
  | none => none
def on3 (x y z : Operand) (k : MV → MV → MV → MS → Option MStep) (E : Env) (s : MS) : Option MStep :=
  match opd E x with
  | some a => match opd E y with
    | some b => match opd E z with
      | some c => k a b c s
      | none => none
    | none => none
  | none => none

def hMove (a : MV) (s : MS) : Option MStep := some (.val a s)
def hPick (c a b : Operand) (E : Env) (s : MS) : Option MStep :=
  match opd E c with
  | some (.bool true) => pureS (opd E a) s
  | some (.bool false) => pureS (opd E b) s
  | _ => none
def hAlloc (e : TypeId) (_ : Env) (s : MS) : Option MStep :=
  match zeroT P e with
  | some z => some (.val (.ptr s.next 0) (s.add (.cells z.cells)))
  | none => none
def hBox (v : MV) (s : MS) : Option MStep := some (.val (.ptr s.next 0) (s.add (.cells v.cells)))
def hBuild (t : TypeId) (ps : Array (Nat × Operand)) (E : Env) (s : MS) : Option MStep :=
  match parts E ps with
  | some l => pureS (mBuild P t l) s
  | none => none
def hBuildSlice (t : TypeId) (n : Nat) (ps : Array (Nat × Operand)) (E : Env) (s : MS) : Option MStep :=
  match parts E ps with
  | some l => effS (mBuildSlice P t n l s)
  | none => none
/-- What is known of a value, of a struct's parts. -/
def knownV (A : Asm) : MV → MV
  | .agg l => .agg (l.map (known A))
  | v => known A v
def knownVO (A : Asm) : Option MV → Option MV
  | some v => some (knownV A v)
  | none => none
def hLoad (ext : Ext) (t : TypeId) (a : MV) (s : MS) : Option MStep :=
  pureS (match a with | .uptr a sz i off => uLoad P ext t a sz i off | a => knownVO ext.asm (mLoad P t a s)) s
def hStore (t : TypeId) (a x : MV) (s : MS) : Option MStep := unitS (mStore P t a x s)
def hNilCheck (a : MV) (s : MS) : Option MStep :=
  match a with
  | .ptr .. | .iface .. | .uptr .. => some (.val a s)
  | _ => none
def knownO (A : Asm) : Option MV → Option MV
  | some v => some (known A v)
  | none => none
def hBin (A : Asm) (b : BinOp) (t : TypeId) (x y : Operand) (a c : MV) (s : MS) : Option MStep :=
  pureS (match a.sym || c.sym with | true => knownO A (symBin P A b t a c) | false => orElseS (mBin P b t x y a c) (knownO A (symEqBin P b t x y a c))) s
def hUn (A : Asm) (u : UnOp) (a : MV) (s : MS) : Option MStep :=
  pureS (match a.sym with | true => knownO A (symUn u a) | false => mUn u a) s
def uConv (src dst : TypeId) (a : MV) (s : MS) : Option MV :=
  match P.underlying src with
  | some (.slice e) => match a with
    | .sl .. => match elems a 1 s with
      | some r => uText P e dst r.2
      | none => none
    | _ => none
  | _ => none
def symConv (dst : TypeId) (a : MV) : Option MV :=
  match P.underlying dst, a with
  | some (.int k), .sx _ e => some (.sx k (.wrap k e))
  | some .string, .ustr e => some (.ustr e)
  | _, _ => none
def hConvert (A : Asm) (src dst : TypeId) (a : MV) (s : MS) : Option MStep :=
  match a.sym with
  | true => match P.underlying src with
    | some _ => pureS (knownO A (symConv P dst a)) s
    | none => none
  | false => effS (match uConv P src dst a s with | some v => some (v, s) | none => mConvert P src dst a s)
def hMakeInterface (t : TypeId) (a : MV) (s : MS) : Option MStep :=
  match P.underlying t with
  | some (.interface _) => none
  | some _ => some (.val (.iface t a) s)
  | none => none
def hMakeFunc (fn : Fn) (first cap : Array Operand) (E : Env) (s : MS) : Option MStep :=
  match opds E first with
  | some a => match opds E cap with
    | some b => some (.val (.func fn a b) s)
    | none => none
  | none => none
def hMakeMap (t : TypeId) (r : Option Operand) (E : Env) (s : MS) : Option MStep :=
  match r with
  | none => some (.val (.map s.next) (s.add (.map [] 0)))
  | some x => match P.underlying t, opd E x with
    | some (.map _ _), some (.int _ _) => some (.val (.map s.next) (s.add (.map [] 0)))
    | _, _ => none
def hMakeSlice (t : TypeId) (l c : MV) (s : MS) : Option MStep := effS (mMakeSlice P t l c s)
def hSlice (A : Asm) (t : TypeId) (x : Operand) (lo hi mx : Option Operand) (E : Env) (s : MS) : Option MStep :=
  match opd E x with
  | none => none
  | some a => match opdO E lo, opdO E hi, opdO E mx with
    | some lo, some hi, some mx => pureS (match a with | .ustr e => uSlice P A t e lo hi mx | a => mSlice P t a lo hi mx s) s
    | _, _, _ => none
def hFieldAddr (t : TypeId) (f : Nat) (a : MV) (s : MS) : Option MStep :=
  pureS (match a with | .uptr a sz i off => uFieldAddr P t f a sz i off | a => mFieldAddr P t a f) s
def hField (t : TypeId) (f : Nat) (a : MV) (s : MS) : Option MStep := pureS (mField P t a f) s
def hIndexAddr (A : Asm) (t : TypeId) (a i : MV) (s : MS) : Option MStep :=
  pureS (match a with | .usl a n => uIndexAddr P A t a n i | a => mIndexAddr P t a i s) s
def hIndex (A : Asm) (t : TypeId) (a i : MV) (s : MS) : Option MStep :=
  pureS (match a with | .ustr e => uIndex P A t e i | a => mIndex P t a i) s
def hLookup (t : TypeId) (ok : Bool) (a k : MV) (s : MS) : Option MStep := pureS (mLookup P t a k ok s) s
def hMapUpdate (t : TypeId) (m k x : MV) (s : MS) : Option MStep := unitS (mMapUpdate P t m k x s)
def hMapEntry (t : TypeId) (m k : MV) (s : MS) : Option MStep := effS (mMapEntry P t m k s)
def hEntryStore (m st x : MV) (s : MS) : Option MStep := unitS (mEntryStore m st x s)
def hRange (t : TypeId) (a : MV) (s : MS) : Option MStep := effS (mRange P t a s)
def hNext (isStr : Bool) (a : MV) (s : MS) : Option MStep :=
  match isStr with
  | true => none
  | false => match mNext a s with
    | some l => some (.many l)
    | none => none
def hEntry (a : MV) (s : MS) : Option MStep := pureS (mEntry a s) s
def hTypeAssert (t : TypeId) (ok : Bool) (a : MV) (s : MS) : Option MStep := pureS (mTypeAssert P a t ok) s
def hExtract (i : Nat) (a : MV) (s : MS) : Option MStep :=
  match a with
  | .tuple vs => pureS vs[i]? s
  | _ => none

def mop (ext : Ext) (op : Op) : Env → MS → Option MStep :=
  match op with
  | .move x | .assign x => on1 x hMove
  | .load t a => on1 a (hLoad P ext t)
  | .fieldAddr t x f => on1 x (hFieldAddr P t f)
  | .binOp b t x y _ => on2 x y (hBin P ext.asm b t x y)
  | .nilCheck x => on1 x hNilCheck
  | .call c => mCall P ext c
  | .store t a x => on2 a x (hStore P t)
  | .pick c a b => hPick c a b
  | .extract t i => on1 t (hExtract i)
  | .unOp u _ x => on1 x (hUn ext.asm u)
  | .convert src dst x => on1 x (hConvert P ext.asm src dst)
  | .index t x i => on2 x i (hIndex P ext.asm t)
  | .indexAddr t x i => on2 x i (hIndexAddr P ext.asm t)
  | .slice t x lo hi mx => hSlice P ext.asm t x lo hi mx
  | .build t ps => hBuild P t ps
  | .buildSlice t n ps => hBuildSlice P t n ps
  | .alloc e => hAlloc P e
  | .box _ x => on1 x hBox
  | .field t x f => on1 x (hField P t f)
  | .makeInterface t x => on1 x (hMakeInterface P t)
  | .makeFunc fn first cap => hMakeFunc fn first cap
  | .makeMap t r => hMakeMap P t r
  | .makeSlice t l c => on2 l c (hMakeSlice P t)
  | .lookup t x k ok => on2 x k (hLookup P t ok)
  | .mapUpdate t m k x | .insert t m k x => on3 m k x (hMapUpdate P t)
  | .mapEntry t m k => on2 m k (hMapEntry P t)
  | .entryStore _ m st x => on3 m st x hEntryStore
  | .range t x => on1 x (hRange P t)
  | .next it isStr => on1 it (hNext isStr)
  | .entry it => on1 it hEntry
  | .typeAssert x _ t ok => on1 x (hTypeAssert P t ok)
  | _ => fun _ _ => none

inductive MEx where
  | normal
  | exit (id : Nat)
  | ret
  deriving DecidableEq, Inhabited

structure Out where
  e : MEx
  rs : List (Nat × MV)
  s : MS

inductive Task where
  | code (keep : Nat) (c : Code) (rs : List (Nat × MV)) (s : MS)
  | call (f : FuncId) (args : List MV) (s : MS)

/-- What a task comes to: ways out of code; or what a call gives. -/
inductive Res where
  | outs (l : List Out)
  | rets (l : List (MV × MS))

abbrev Run := Task → Option Res

def wantedM (ops : Array Oper) (o : Oper) (E : Env) : Option Bool :=
  match o.guard with
  | none => some true
  | some (j, want) =>
    match (ops[j]?).bind (·.dst) with
    | none => none
    | some d => match E.look d with
      | some (.bool b) => some (b == want)
      | some (.sb _) => none
      | some _ => some false
      | none => none

def allM {α β : Type} (f : α → Option (List β)) : List α → Option (List β)
  | [] => some []
  | [x] => f x
  | x :: rest =>
    match f x with
    | none => none
    | some a => match allM f rest with
      | none => none
      | some b => some (a ++ b)

/-- One operation, calls by 'ih'. -/
def opRun (ext : Ext) (ih : Run) (ops : Array Oper) (o : Oper) (E : Env) (s : MS) : Option (List (Env × MS)) :=
  match wantedM ops o E with
  | none => none
  | some false => some [(E.put o.dst .undef, s)]
  | some true =>
    match mop P ext o.op E s with
    | none => none
    | some (.val v s') => some [(E.put o.dst v, s')]
    | some (.many l) => some (l.map fun r => (E.put o.dst r.1, r.2))
    | some (.call f args) =>
      match ih (.call f args s) with
      | some (.rets l) => some (l.map fun r => (E.put o.dst r.1, r.2))
      | _ => none

def opsRun (ext : Ext) (ih : Run) (ops : Array Oper) : List Oper → Env → MS → Option (List (Env × MS))
  | [], E, s => some [(E, s)]
  | o :: rest, E, s =>
    match opRun P ext ih ops o E s with
    | none => none
    | some [r] => opsRun ext ih ops rest r.1 r.2
    | some l => allM (fun r => opsRun ext ih ops rest r.1 r.2) l

def lookR (rs : List (Nat × MV)) (t : Nat) : Option MV := find t none rs

def resM (rs : List (Nat × MV)) (s : MS) : List ResultVar → Option (List MV)
  | [] => some []
  | .tmp t :: rest =>
    match find t none rs, resM rs s rest with
    | some v, some l => some (v :: l)
    | _, _ => none
  | .cell a t :: rest =>
    match find a none rs with
    | none => none
    | some x => match mLoad P t x s, resM rs s rest with
      | some v, some l => some (v :: l)
      | _, _ => none

def resultOf (fn : Func) (rs : List (Nat × MV)) (s : MS) : Option MV :=
  match resM P rs s fn.results.toList with
  | some [v] => some v
  | some vs => some (.tuple vs)
  | none => none

/-- The variables that are read outside the region that wrote them (a hint: nothing hangs on it but that the run goes through). -/
def bitO (w : Nat) : Operand → Nat
  | .tmp t => match w.testBit t with | true => 0 | false => 2 ^ t
  | _ => 0
def keepOps : List Oper → (written acc : Nat) → Nat
  | [], _, acc => acc
  | o :: rest, w, acc =>
    let acc := o.op.operands.toList.foldl (fun a x => a ||| bitO w x) acc
    keepOps rest (match o.dst with | some d => w ||| 2 ^ d | none => w) acc
def keepC : Code → Nat
  | .region _ ops _ => keepOps ops.toList 0 0
  | .seq a b => keepC a ||| keepC b
  | .cond c a b => bitO 0 c ||| keepC a ||| keepC b
  | .block _ c | .loop c | .scope c => keepC c
  | .rangeFunc f _ a b => bitO 0 f ||| keepC a ||| keepC b
  | _ => 0
def keepR : List ResultVar → Nat
  | [] => 0
  | .tmp t :: l => 2 ^ t ||| keepR l
  | .cell a _ :: l => 2 ^ a ||| keepR l
def keepOf (fn : Func) : Nat := keepR fn.results.toList ||| (match fn.body with | some c => keepC c | none => 0)

def params (keep : Nat) : Nat → List MV → List (Nat × MV)
  | _, [] => []
  | i, v :: l => match keep.testBit i with
    | true => (i, v) :: params keep (i + 1) l
    | false => params keep (i + 1) l

/-- A region that draws its order: what it comes to, and that every order comes to it. -/
abbrev DrawRun := Run → Array Oper → Env → MS → Option (List (Env × MS))

/-- A function whose contract is given. -/
abbrev Orc := FuncId → Option (List MV → MS → Option (MV × MS))

def retsOf (fn : Func) : List Out → Option (List (MV × MS))
  | [] => some []
  | r :: l =>
    match r.e with
    | .exit _ => none
    | _ => match resultOf P fn r.rs r.s, retsOf fn l with
      | some v, some l => some ((v, r.s) :: l)
      | _, _ => none

/-- Every variable that is written lies in the frame. -/
def fitsOps (n : Nat) : List Oper → Bool
  | [] => true
  | o :: rest => match o.dst with
    | none => fitsOps n rest
    | some d => Nat.blt d n && fitsOps n rest
def fitsC (n : Nat) : Code → Bool
  | .region _ ops _ => fitsOps n ops.toList
  | .seq a b => fitsC n a && fitsC n b
  | .cond _ a b => fitsC n a && fitsC n b
  | .block _ c | .loop c | .scope c => fitsC n c
  | .rangeFunc _ _ a b => fitsC n a && fitsC n b
  | _ => true

def bodyCall (orc : Orc) (merge : List (MV × MS) → List (MV × MS)) (ih : Run) (f : FuncId) (args : List MV) (s : MS) : Option Res :=
  match orc f with
  | some g => match g args s with
    | some r => some (.rets [r])
    | none => none
  | none =>
    match P.funcs[f]? with
    | none => none
    | some fn =>
      match fn.body with
      | none => none
      | some c =>
        match Nat.ble args.length fn.ntmps && fitsC fn.ntmps c with
        | true =>
          match ih (.code (keepOf fn) c (params (keepOf fn) 0 args) s) with
          | some (.outs l) => match retsOf P fn l with
            | some r => some (.rets (merge r))
            | none => none
          | _ => none
        | false => none

def seqK (ih : Run) (keep : Nat) (b : Code) (r : Out) : Option (List Out) :=
  match r.e with
  | .normal => match ih (.code keep b r.rs r.s) with
    | some (.outs l) => some l
    | _ => none
  | _ => some [r]

def outsOf : Option Res → Option (List Out)
  | some (.outs l) => some l
  | _ => none

def wrapO : Option (List Out) → Option Res
  | some l => some (.outs l)
  | none => none

def unblock (id : Nat) (r : Out) : Out :=
  match r.e with
  | .exit i => match Nat.beq i id with
    | true => ⟨.normal, r.rs, r.s⟩
    | false => r
  | _ => r

def bodyCode (ext : Ext) (dr : DrawRun) (ih : Run) (keep : Nat) (c : Code) (rs : List (Nat × MV)) (s : MS) : Option Res :=
  match c with
  | .seq a b =>
    match ih (.code keep a rs s) with
    | some (.outs [r]) => match r.e with
      | .normal => ih (.code keep b r.rs r.s)
      | _ => some (.outs [r])
    | some (.outs l) => wrapO (allM (seqK ih keep b) l)
    | _ => none
  | .region _ ops draw =>
    match (match draw with | true => dr ih ops ⟨[], rs⟩ s | false => opsRun P ext ih ops ops.toList ⟨[], rs⟩ s) with
    | none => none
    | some l => some (.outs (l.map fun r => ⟨.normal, flush keep r.1.es r.1.rs, r.2⟩))
  | .cond c a b =>
    match opd ⟨[], rs⟩ c with
    | some (.bool true) => ih (.code keep a rs s)
    | some (.bool false) => ih (.code keep b rs s)
    | _ => none
  | .block id c =>
    match ih (.code keep c rs s) with
    | some (.outs l) => some (.outs (l.map (unblock id)))
    | _ => none
  | .loop c =>
    match ih (.code keep c rs s) with
    | some (.outs [r]) => match r.e with
      | .normal => ih (.code keep (.loop c) r.rs r.s)
      | _ => some (.outs [r])
    | some (.outs l) => wrapO (allM (seqK ih keep (.loop c)) l)
    | _ => none
  | .exit id => some (.outs [⟨.exit id, rs, s⟩])
  | .ret => some (.outs [⟨.ret, rs, s⟩])
  | .skip => some (.outs [⟨.normal, rs, s⟩])
  | .label _ => some (.outs [⟨.normal, rs, s⟩])
  | _ => none

def body (ext : Ext) (orc : Orc) (merge : List (MV × MS) → List (MV × MS)) (dr : DrawRun) (ih : Run) (t : Task) : Option Res :=
  match t with
  | .code keep c rs s => bodyCode P ext dr ih keep c rs s
  | .call f args s => bodyCall P orc merge ih f args s

def ev (ext : Ext) (orc : Orc) (merge : List (MV × MS) → List (MV × MS)) (dr : DrawRun) : Nat → Run
  | 0 => fun _ => none
  | n + 1 => body P ext orc merge dr (ev ext orc merge dr n)

end
end Go.Mir
