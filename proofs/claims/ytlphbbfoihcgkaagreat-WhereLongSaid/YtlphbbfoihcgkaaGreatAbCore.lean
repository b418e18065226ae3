/- Part of the proof over the seat YtlphbbfoihcgkaaGreat: AbCore. No conditions of its own. -/
import Derived.Calls
import Derived.Orders
namespace Go.Ab

/-- Values of the abstract run: memory by block numbers of its own, immutable rows by what they hold. -/
inductive AV where
  | undef
  | int (k : IntKind) (n : Int)
  | bool (b : Bool)
  | str (s : List UInt8)
  | nil (v : Value)
  | nsl
  | imm (nn : Bool) (m : Nat) (es : List AV)
  | ref (b off len m cap : Nat) (ex : Bool)
  | ptr (b off : Nat)
  | iptr (m : Nat) (es : List AV) (i off : Nat)
  | map (b : Nat)
  | fn (f : Nat) (caps : List AV)
  | agg (cs : List AV)
  | tup (cs : List AV)

/-- A value of one cell. -/
def AV.one : AV → Bool
  | .undef | .agg _ | .tup _ => false
  | _ => true

/-- It is a value, of one cell or of some. -/
def AV.val : AV → Bool
  | .undef | .tup _ => false
  | _ => true

def AV.cells : AV → List AV
  | .agg cs => cs
  | v => [v]

/-- A block of the abstract memory. -/
inductive Blk where
  | dead
  | cells (cs : List AV)
  | map (es : List (AV × AV))

/-- A trie over numbers: what the kernel reads fast. -/
inductive Tr (α : Type) where
  | leaf
  | node (l : Tr α) (v : Option α) (r : Tr α)

def Tr.get {α : Type} : Tr α → Nat → Option α
  | .leaf, _ => none
  | .node l v r, n =>
    match n with
    | 0 => v
    | k + 1 => match k % 2 with
      | 0 => l.get (k / 2)
      | _ => r.get (k / 2)

def Tr.set {α : Type} (x : α) : Nat → Tr α → Nat → Tr α
  | 0, t, _ => t
  | f + 1, t, n =>
    match t with
    | .leaf => match n with
      | 0 => .node .leaf (some x) .leaf
      | k + 1 => match k % 2 with
        | 0 => .node (Tr.set x f .leaf (k / 2)) none .leaf
        | _ => .node .leaf none (Tr.set x f .leaf (k / 2))
    | .node l v r => match n with
      | 0 => .node l (some x) r
      | k + 1 => match k % 2 with
        | 0 => .node (Tr.set x f l (k / 2)) v r
        | _ => .node l v (Tr.set x f r (k / 2))

def Tr.put {α : Type} (t : Tr α) (n : Nat) (x : α) : Tr α := Tr.set x (n.log2 + 2) t n

/-- The abstract memory: its blocks, each with when it was written last; how many there were; how often was written. -/
structure Hp where
  t : Tr (Nat × Blk)
  n : Nat
  clk : Nat

def Hp.empty : Hp := ⟨.leaf, 0, 0⟩
def Hp.get (h : Hp) (b : Nat) : Blk := match h.t.get b with | some (_, x) => x | none => .dead
/-- When a block was written last. -/
def Hp.ts (h : Hp) (b : Nat) : Nat := match h.t.get b with | some (k, _) => k | none => 0
def Hp.put (h : Hp) (b : Nat) (x : Blk) : Hp := ⟨h.t.put b (h.clk, x), h.n, h.clk + 1⟩
def Hp.push (h : Hp) (x : Blk) : Hp := ⟨h.t.put h.n (h.clk, x), h.n + 1, h.clk + 1⟩

/-- What is asked of a type. -/
inductive TK where
  | int (k : IntKind) | bool | str
  | sl (e : Nat) | arr (n e : Nat) | ptr (e : Nat) | map (k e : Nat)
  | st (fs : List (Nat × Nat))     -- offset, type
  | fn | other

structure TI where
  k : TK
  sz : Nat
  bytes : Nat
  zero : List AV

/-- A function's code. -/
structure FI where
  ntmps : Nat
  results : List ResultVar
  body : Code

abbrev Prim := List AV → Hp → Option (AV × Hp)

structure Env where
  ty : Tr TI
  fn : Tr FI
  prim : Tr Prim

def ofBytes (s : ByteArray) : List UInt8 := s.data.toList

def ofCells (f : Value → Option AV) : List Value → Option (List AV)
  | [] => some []
  | v :: vs => match f v with
    | some a => match ofCells f vs with
      | some as => some (a :: as)
      | none => none
    | none => none

def ofConst1 : Value → Option AV
  | .int k n => some (.int k n)
  | .bool b => some (.bool b)
  | .string s => some (.str (ofBytes s))
  | .pointer none => some (.nil (.pointer none))
  | .map none => some (.nil (.map none))
  | .chan none => some (.nil (.chan none))
  | .nilFunc => some (.nil .nilFunc)
  | .nilIface => some (.nil .nilIface)
  | .slice none 0 0 => some .nsl
  | _ => none

def ofConst : Value → Option AV
  | .agg cs => match ofCells ofConst1 cs.toList with
    | some l => some (.agg l)
    | none => none
  | .tuple _ => some .undef
  | v => ofConst1 v

def opnd (env : Tr AV) : Operand → Option AV
  | .tmp t => match env.get t with | some v => some v | none => some .undef
  | .const v => ofConst v
  | .global _ => none
  | .func f => some (.fn f [])

def putD (env : Tr AV) (d : Option Tmp) (v : AV) : Tr AV := match d with
  | some d => env.put d v
  | none => env

/-- Cells of a row of elements. -/
def flat (es : List AV) : List AV := es.flatMap AV.cells

def rows (m : Nat) : Nat → List AV → List AV
  | 0, _ => []
  | n + 1, cs => (match m with | 1 => (match cs with | c :: _ => c | [] => .undef) | _ => .agg (cs.take m)) :: rows m n (cs.drop m)

def TI.isAgg (t : TI) : Bool := match t.k with | .st _ => true | .arr _ _ => true | _ => false

/-- n cells from off on, as a value of a type. -/
def part (t : TI) (cs : List AV) (off : Nat) : Option AV :=
  if off + t.sz ≤ cs.length then
    match t.isAgg with
    | true => some (.agg ((cs.drop off).take t.sz))
    | false => match t.sz with | 1 => cs[off]? | _ => none
  else none

def AV.isU8 : AV → Bool
  | .int .u8 _ => true
  | _ => false

def allU8 : List AV → Bool
  | [] => true
  | a :: as => match a.isU8 with | true => allU8 as | false => false

/-- Into a row of bytes come bytes. -/
def u8ok (cs new : List AV) : Bool := match cs with
  | [] => allU8 new
  | a :: _ => match a.isU8 with | true => allU8 new | false => true

def overwrite (cs : List AV) (off : Nat) (vs : List AV) : List AV := cs.take off ++ vs ++ cs.drop (off + vs.length)

def load (H : Hp) (t : TI) : AV → Option AV
  | .ptr b off => match H.get b with
    | .cells cs => part t cs off
    | _ => none
  | .iptr _ es i off => match es[i]? with
    | some e => part t e.cells off
    | none => none
  | _ => none

def store (H : Hp) (t : TI) (a v : AV) : Option Hp :=
  match a with
  | .ptr b off => match H.get b with
    | .cells cs => let vs := v.cells
      if v.val = true ∧ vs.length = t.sz ∧ off + t.sz ≤ cs.length ∧ u8ok cs vs = true then some (H.put b (.cells (overwrite cs off vs))) else none
    | _ => none
  | _ => none

def bEq : List UInt8 → List UInt8 → Bool
  | [], [] => true
  | a :: x, b :: y => match Nat.beq a.toNat b.toNat with | true => bEq x y | false => false
  | _, _ => false

def bLess : List UInt8 → List UInt8 → Bool
  | _, [] => false
  | [], _ :: _ => true
  | a :: x, b :: y => match Nat.blt a.toNat b.toNat with
    | true => true
    | false => match Nat.beq a.toNat b.toNat with | true => bLess x y | false => false

def kEq : IntKind → IntKind → Bool
  | .i8, .i8 | .i16, .i16 | .i32, .i32 | .i64, .i64 | .u8, .u8 | .u16, .u16 | .u32, .u32 | .u64, .u64 => true
  | _, _ => false

def intOp (op : BinOp) (k : IntKind) (a b : Int) : Option AV :=
  match op with
  | .add => some (.int k (k.wrap (a + b)))
  | .sub => some (.int k (k.wrap (a - b)))
  | .mul => some (.int k (k.wrap (a * b)))
  | .quo => if b = 0 then none else some (.int k (k.wrap (a.tdiv b)))
  | .rem => if b = 0 then none else some (.int k (a.tmod b))
  | .and => some (.int k (k.wrap (BitVec.ofInt k.bits a &&& BitVec.ofInt k.bits b).toNat))
  | .or => some (.int k (k.wrap (BitVec.ofInt k.bits a ||| BitVec.ofInt k.bits b).toNat))
  | .xor => some (.int k (k.wrap (BitVec.ofInt k.bits a ^^^ BitVec.ofInt k.bits b).toNat))
  | .andNot => some (.int k (k.wrap (BitVec.ofInt k.bits a &&& ~~~ BitVec.ofInt k.bits b).toNat))
  | .eql => some (.bool (decide (a = b)))
  | .neq => some (.bool (!decide (a = b)))
  | .lss => some (.bool (decide (a < b)))
  | .leq => some (.bool (decide (a ≤ b)))
  | .gtr => some (.bool (decide (b < a)))
  | .geq => some (.bool (decide (b ≤ a)))
  | _ => none

/-- == of two values of one cell each, of a type. -/
def eq1 : TK → AV → AV → Option Bool
  | .int _, .int k a, .int k' b => match kEq k k' with | true => some (decide (a = b)) | false => none
  | .bool, .bool a, .bool b => some (a == b)
  | .str, .str a, .str b => some (bEq a b)
  | .ptr _, .nil (.pointer none), .nil (.pointer none) => some true
  | .ptr _, .ptr _ _, .nil (.pointer none) => some false
  | .ptr _, .nil (.pointer none), .ptr _ _ => some false
  | .ptr _, .iptr _ _ _ _, .nil (.pointer none) => some false
  | .ptr _, .nil (.pointer none), .iptr _ _ _ _ => some false
  | .map _ _, .nil (.map none), .nil (.map none) => some true
  | .map _ _, .map _, .nil (.map none) => some false
  | .map _ _, .nil (.map none), .map _ => some false
  | .fn, .nil .nilFunc, .nil .nilFunc => some true
  | .fn, .fn _ _, .nil .nilFunc => some false
  | .fn, .nil .nilFunc, .fn _ _ => some false
  | .sl _, .nsl, .nsl => some true
  | .sl _, .imm true _ _, .nsl => some false
  | .sl _, .imm false _ (_ :: _), .nsl => some false
  | .sl _, .ref _ _ _ _ _ _, .nsl => some false
  | _, _, _ => none

/-- Fields that are numbers, bools, texts, a cell each: are the cells the same? -/
def eqFs (ty : Tr TI) : List (Nat × Nat) → Nat → List AV → List AV → Option Bool
  | [], _, _, _ => some true
  | (off, t) :: fs, i, a :: x, b :: y => match Nat.beq off i, ty.get t with
    | true, some ti => match ti.isAgg, eq1 ti.k a b with
      | false, some true => eqFs ty fs (i + 1) x y
      | false, some false => some false
      | _, _ => none
    | _, _ => none
  | _, _, _, _ => none

def eqAV (ty : Tr TI) (k : TK) (a b : AV) : Option Bool := match k, a, b with
  | .st fs, .agg x, .agg y => eqFs ty fs 0 x y
  | k, a, b => eq1 k a b

def binOp (ty : Tr TI) (tk : TK) (op : BinOp) (x y : AV) : Option AV :=
  match op, x, y with
  | .shl, .int k a, .int _ b => if b < 0 then none else some (.int k (k.wrap (a * 2 ^ (min b.toNat k.bits))))
  | .shr, .int k a, .int _ b => if b < 0 then none else some (.int k (a.fdiv (2 ^ (min b.toNat k.bits))))
  | op, .int k a, .int k' b => match kEq k k' with | true => intOp op k a b | false => none
  | .add, .str a, .str b => if a.length + b.length < 2 ^ 40 then some (.str (a ++ b)) else none
  | .lss, .str a, .str b => some (.bool (bLess a b))
  | .gtr, .str a, .str b => some (.bool (bLess b a))
  | .leq, .str a, .str b => some (.bool (!bLess b a))
  | .geq, .str a, .str b => some (.bool (!bLess a b))
  | .eql, a, b => match eqAV ty tk a b with | some t => some (.bool t) | none => none
  | .neq, a, b => match eqAV ty tk a b with | some t => some (.bool (!t)) | none => none
  | _, _, _ => none

def unOp (op : UnOp) (x : AV) : Option AV := match op, x with
  | .neg, .int k n => some (.int k (k.wrap (0 - n)))
  | .xor, .int k n => intOp .xor k (if k.signed then -1 else k.max) n
  | .not, .bool b => some (.bool !b)
  | _, _ => none

def lenAV (H : Hp) : AV → Option Nat
  | .nsl => some 0
  | .imm _ _ es => some es.length
  | .ref _ _ len _ _ _ => some len
  | .str s => some s.length
  | .map b => match H.get b with | .map es => some es.length | _ => none
  | .nil (.map none) => some 0
  | _ => none

/-- The cells of the first n elements (m cells each) of a slice or a string. -/
def cellsOf (H : Hp) (m n : Nat) : AV → Option (List AV)
  | .nsl => if n = 0 then some [] else none
  | .imm _ m' es => if m' = m ∧ n ≤ es.length then some (flat (es.take n)) else none
  | .ref b off len m' _ _ => if m' = m ∧ n ≤ len then (match H.get b with
      | .cells cs => let l := (cs.drop off).take (n * m); if l.length = n * m then some l else none
      | _ => none) else none
  | .str s => if m = 1 ∧ n ≤ s.length then some ((s.take n).map fun x => .int .u8 x.toNat) else none
  | _ => none

/-- append of so many cells (n elements) to a slice. -/
def appendTo (H : Hp) (e : TI) (dst : AV) (n : Nat) (new : List AV) : Option (AV × Hp) :=
  match dst with
  | .nsl => match n with
    | 0 => some (.nsl, H)
    | _ => if n < 2 ^ 48 ∧ n * e.bytes ≤ 2 ^ 48 ∧ e.zero.length = e.sz then some (.ref H.n 0 n e.sz n false, H.push (.cells new)) else none
  | .ref b off len m cap ex => match n with
    | 0 => if m = e.sz then some (.ref b off len m cap ex, H) else none
    | _ => match H.get b with
      | .cells cs =>
        if m = e.sz ∧ e.zero.length = m then
          (if len + n ≤ cap then
            (if off + cap * m ≤ cs.length ∧ u8ok cs new = true then some (.ref b off (len + n) m cap ex, H.put b (.cells (overwrite cs (off + len * m) new))) else none)
          else if len + n < 2 ^ 40 ∧ (len + n) * e.bytes < 2 ^ 44 ∧ e.bytes < 2 ^ 16 then
            (match ex with
            | true => if off + len * m ≤ cs.length then some (.ref H.n 0 (len + n) m (len + n) false, H.push (.cells ((cs.drop off).take (len * m) ++ new))) else none
            | false => if off + len * m = cs.length ∧ u8ok cs new = true then
                some (.ref H.n 0 (len + n) m (len + n) false, (H.put b .dead).push (.cells (cs.drop off ++ new))) else none)
          else none)
        else none
      | _ => none
  | _ => none

def natOf : AV → Option Nat
  | .int _ n => match n with | .ofNat k => some k | .negSucc _ => none
  | _ => none

def natOr (d : Nat) : Option AV → Option Nat
  | none => some d
  | some v => natOf v

def sliceOp (t : TI) (et : Tr TI) (x : AV) (lo hi : Option AV) : Option AV :=
  match t.k with
  | .str => match x, natOr 0 lo with
    | .str s, some l => match natOr s.length hi with
      | some h => if l ≤ h ∧ h ≤ s.length then some (.str ((s.drop l).take (h - l))) else none
      | none => none
    | _, _ => none
  | .sl e => match et.get e, natOr 0 lo with
    | some ei, some l => match x with
      | .nsl => match natOr 0 hi with
        | some 0 => if l = 0 then some .nsl else none
        | _ => none
      | .imm _ m es => match natOr es.length hi with
        | some h => if m = ei.sz ∧ l ≤ h ∧ h ≤ es.length then
          (if l = 0 then some (.imm false m (es.take h)) else some (.imm false m ((es.drop l).take (h - l)))) else none
        | none => none
      | .ref b off len m cap ex => match natOr len hi with
        | some h => if m = ei.sz ∧ l ≤ h ∧ (h ≤ len ∨ h ≤ cap) then
          (if l = 0 then some (.ref b off h m cap ex)
           else if l < h ∨ l < cap then some (.ref b (off + l * m) (h - l) m (cap - l) ex)
           else some (.imm false m [])) else none
        | none => none
      | _ => none
    | _, _ => none
  | _ => none

def byteOf : AV → Option UInt8
  | .int .u8 v => some (UInt8.ofNat v.toNat)
  | _ => none

def bytesOf : List AV → Option (List UInt8)
  | [] => some []
  | a :: as => match byteOf a, bytesOf as with
    | some b, some bs => some (b :: bs)
    | _, _ => none

def convertPL (H : Hp) (ty : Tr TI) (src dst : TI) (x : AV) : Option AV :=
  match dst.k with
  | .int k => match x with
    | .int _ n => some (.int k (k.wrap n))
    | _ => none
  | .str => match src.k, x with
    | .str, .str s => some (.str s)
    | .sl _, .str _ => none
    | .sl e, x => match ty.get e, lenAV H x with
      | some ei, some n => match ei.k, cellsOf H 1 n x with
        | .int .u8, some cs => match bytesOf cs with
          | some l => some (.str l)
          | none => none
        | _, _ => none
      | _, _ => none
    | _, _ => none
  | _ => none

def TK.key : TK → Bool
  | .int _ | .bool | .str => true
  | _ => false

def findKey (kk : TK) (k : AV) : List (AV × AV) → Nat → Option (Option (Nat × AV))
  | [], _ => some none
  | e :: es, i => match eq1 kk k e.1 with
    | some true => some (some (i, e.2))
    | some false => findKey kk k es (i + 1)
    | none => none

def wanted (o : Oper) (ops : Array Oper) (env : Tr AV) : Option Bool :=
  match o.guard with
  | none => some true
  | some (j, b) => match (ops[j]?).bind (·.dst) with
    | some d => match env.get d with
      | some (.bool c) => some (match b, c with | true, true => true | false, false => true | _, _ => false)
      | some (.tup []) => some false
      | _ => none
    | none => some false

def fill (place : Nat → Option (Nat × Nat)) (cells : List AV) : List (Nat × AV) → Option (List AV)
  | [] => some cells
  | (i, v) :: rest => match place i with
    | none => none
    | some (off, size) =>
      if v.val = true ∧ v.cells.length = size ∧ off + size ≤ cells.length then fill place (overwrite cells off v.cells) rest else none

def opnds (env : Tr AV) : List Operand → Option (List AV)
  | [] => some []
  | x :: xs => match opnd env x with
    | some v => match opnds env xs with
      | some vs => some (v :: vs)
      | none => none
    | none => none

def parts (env : Tr AV) : List (Nat × Operand) → Option (List (Nat × AV))
  | [] => some []
  | (i, x) :: xs => match opnd env x with
    | some v => match parts env xs with
      | some vs => some ((i, v) :: vs)
      | none => none
    | none => none

def optOpnd (env : Tr AV) : Option Operand → Option (Option AV)
  | none => some none
  | some x => match opnd env x with | some v => some (some v) | none => none

def repeatCells (z : List AV) : Nat → List AV
  | 0 => []
  | n + 1 => z ++ repeatCells z n

abbrev CallF := Nat → List AV → Hp → Option (AV × Hp)

inductive Kd where
  | pl | al | ef

/-- Does an operation only reckon and read, make a block, or do more? -/
def kindOf (E : Env) (o : Op) : Kd :=
  match o with
  | .box .. | .alloc .. | .buildSlice .. | .makeMap .. | .makeSlice .. => .al
  | .store .. | .mapUpdate .. | .insert .. => .ef
  | .convert s d _ => match E.ty.get d, E.ty.get s with
    | some di, some si => match di.k with
      | .sl _ => match si.k with | .str => .al | _ => .ef
      | _ => .pl
    | _, _ => .pl
  | .call c => match c.callee with
    | .builtin .len | .builtin .cap | .builtin .min | .builtin .max => .pl
    | _ => .ef
  | _ => .pl

def builtinPL (H : Hp) (b : Builtin) (ti : Option TI) (args : List AV) : Option AV :=
  match b, args with
  | .len, [x] => match ti with
    | some ti => match ti.k, x with
      | .str, .str s => some (.int .i64 s.length)
      | .arr n _, _ => some (.int .i64 n)
      | .sl _, .nsl => some (.int .i64 0)
      | .sl _, .imm _ _ es => some (.int .i64 es.length)
      | .sl _, .ref _ _ len _ _ _ => some (.int .i64 len)
      | .map _ _, .map b => match H.get b with | .map es => some (.int .i64 es.length) | _ => none
      | .map _ _, .nil (.map none) => some (.int .i64 0)
      | _, _ => none
    | none => none
  | .cap, [x] => match ti with
    | some ti => match ti.k, x with
      | .sl _, .ref _ _ _ _ cap true => some (.int .i64 cap)
      | .sl _, .nsl => some (.int .i64 0)
      | _, _ => none
    | none => none
  | .min, [.int k a, .int k' b] => match kEq k k' with | true => some (.int k (if b < a then b else a)) | false => none
  | .max, [.int k a, .int k' b] => match kEq k k' with | true => some (.int k (if a < b then b else a)) | false => none
  | _, _ => none

def zeroAV (t : TI) : Option AV := match t.isAgg with
  | true => some (.agg t.zero)
  | false => match t.zero with | [x] => some x | _ => none

/-- An operation that only reckons and reads. -/
def evPL (E : Env) (env : Tr AV) (H : Hp) (o : Op) : Option AV :=
  match o with
  | .move x | .assign x => opnd env x
  | .pick c a b => match opnd env c with
    | some (.bool true) => opnd env a
    | some (.bool false) => opnd env b
    | _ => none
  | .build t ps => match E.ty.get t, parts env ps.toList with
    | some ti, some l => match ti.k with
      | .st fs => match fill (fun i => match fs[i]? with | some (off, ft) => (match E.ty.get ft with | some fi => some (off, fi.sz) | none => none) | none => none) ti.zero l with
        | some cs => some (.agg cs)
        | none => none
      | .arr _ e => match E.ty.get e with
        | some ei => match fill (fun i => some (i * ei.sz, ei.sz)) ti.zero l with
          | some cs => some (.agg cs)
          | none => none
        | none => none
      | _ => none
    | _, _ => none
  | .load t a => match E.ty.get t, opnd env a with
    | some ti, some p => load H ti p
    | _, _ => none
  | .nilCheck x => match opnd env x with
    | some (.ptr b o) => some (.ptr b o)
    | some (.iptr m es i o) => some (.iptr m es i o)
    | some (.fn f c) => some (.fn f c)
    | _ => none
  | .binOp op t x y _ => match E.ty.get t, opnd env x, opnd env y with
    | some ti, some a, some b => binOp E.ty ti.k op a b
    | _, _, _ => none
  | .unOp op _ x => match opnd env x with
    | some a => unOp op a
    | none => none
  | .convert s d x => match E.ty.get s, E.ty.get d, opnd env x with
    | some si, some di, some v => convertPL H E.ty si di v
    | _, _, _ => none
  | .makeFunc (.func f) first caps => match first.toList, opnds env caps.toList with
    | [], some l => some (.fn f l)
    | _, _ => none
  | .slice t x lo hi none => match E.ty.get t, opnd env x, optOpnd env lo, optOpnd env hi with
    | some ti, some v, some l, some h => sliceOp ti E.ty v l h
    | _, _, _, _ => none
  | .fieldAddr t x f => match E.ty.get t, opnd env x with
    | some ti, some p => match ti.k with
      | .st fs => match fs[f]? with
        | some (off, ft) => match E.ty.get ft with
          | some fi => match fi.sz with
            | 0 => none
            | _ => match p with
              | .ptr b o => some (.ptr b (o + off))
              | .iptr m es i o => some (.iptr m es i (o + off))
              | _ => none
          | none => none
        | none => none
      | _ => none
    | _, _ => none
  | .field t x f => match E.ty.get t, opnd env x with
    | some ti, some v => match ti.k, v with
      | .st fs, .agg cs => match fs[f]? with
        | some (off, ft) => match E.ty.get ft with
          | some fi => part fi cs off
          | none => none
        | none => none
      | _, _ => none
    | _, _ => none
  | .indexAddr t x i => match E.ty.get t, opnd env x, opnd env i with
    | some ti, some v, some iv => match ti.k, natOf iv with
      | .sl e, some n => match E.ty.get e with
        | some ei => (match v with
          | .ref b off len m _ _ => if n < len ∧ m = ei.sz then some (.ptr b (off + n * m)) else none
          | .imm _ m es => if n < es.length ∧ m = ei.sz then some (.iptr m es n 0) else none
          | _ => none)
        | none => none
      | .arr len e, some n => match E.ty.get e with
        | some ei => if n < len then (match v with
          | .ptr b off => some (.ptr b (off + n * ei.sz))
          | .iptr m es j off => some (.iptr m es j (off + n * ei.sz))
          | _ => none) else none
        | none => none
      | _, _ => none
    | _, _, _ => none
  | .index t x i => match E.ty.get t, opnd env x, opnd env i with
    | some ti, some v, some iv => match ti.k, v, natOf iv with
      | .str, .str s, some n => match s[n]? with
        | some c => some (.int .u8 c.toNat)
        | none => none
      | .arr len e, .agg cs, some n => match E.ty.get e with
        | some ei => if n < len then part ei cs (n * ei.sz) else none
        | none => none
      | _, _, _ => none
    | _, _, _ => none
  | .lookup t x i ok => match E.ty.get t, opnd env x, opnd env i with
    | some ti, some mv, some k => match ti.k with
      | .map kt e => match E.ty.get e, E.ty.get kt with
        | some ei, some ki => match (match mv with
            | .map b => (match H.get b with | .map es => some es | _ => none)
            | .nil (.map none) => some []
            | _ => none) with
          | some es => match ki.k.key && k.one with
            | true => match findKey ki.k k es 0 with
              | some (some (_, v)) => some (match ok with | true => .tup [v, .bool true] | false => v)
              | some none => match zeroAV ei with
                | some z => some (match ok with | true => .tup [z, .bool false] | false => z)
                | none => none
              | none => none
            | false => none
          | none => none
        | _, _ => none
      | _ => none
    | _, _, _ => none
  | .extract x i => match opnd env x with
    | some (.tup l) => l[i]?
    | _ => none
  | .call c => match c.callee, opnds env c.args.toList with
    | .builtin b, some args => builtinPL H b ((c.argTypes[0]?).bind E.ty.get) args
    | _, _ => none
  | _ => none

/-- An operation that makes a block: its value (of the block's number), the block. -/
def evA (E : Env) (env : Tr AV) (o : Op) : Option ((Nat → AV) × Blk) :=
  match o with
  | .alloc t => match E.ty.get t with
    | some ti => some (fun b => .ptr b 0, .cells ti.zero)
    | none => none
  | .box _ x => match opnd env x with
    | some v => match v.val with
      | true => some (fun b => .ptr b 0, .cells v.cells)
      | false => none
    | none => none
  | .buildSlice t n ps => match E.ty.get t, parts env ps.toList with
    | some ti, some l => match ti.k with
      | .sl e => match E.ty.get e with
        | some ei => if n < 2 ^ 10 ∧ ei.sz < 2 ^ 10 ∧ ei.zero.length = ei.sz then (match fill (fun i => some (i * ei.sz, ei.sz)) (repeatCells ei.zero n) l with
          | some cs => some (fun b => .ref b 0 n ei.sz n true, .cells cs)
          | none => none) else none
        | none => none
      | _ => none
    | _, _ => none
  | .makeMap _ none => some (fun b => .map b, .map [])
  | .makeSlice t l c => match E.ty.get t, opnd env l, opnd env c with
    | some ti, some lv, some cv => match ti.k, natOf lv, natOf cv with
      | .sl e, some ln, some cn => match E.ty.get e with
        | some ei => if ln ≤ cn ∧ cn < 2 ^ 40 ∧ cn * ei.bytes < 2 ^ 47 ∧ ei.zero.length = ei.sz then some (fun b => .ref b 0 ln ei.sz cn true, .cells (repeatCells ei.zero cn)) else none
        | none => none
      | _, _, _ => none
    | _, _, _ => none
  | .convert s d x => match E.ty.get s, E.ty.get d, opnd env x with
    | some si, some di, some v => match si.k, di.k, v with
      | .str, .sl e, .str s => match E.ty.get e with
        | some ei => match ei.k with
          | .int .u8 => if s.length < 2 ^ 40 then some (fun b => .ref b 0 s.length 1 s.length false, .cells (s.map fun c => .int .u8 c.toNat)) else none
          | _ => none
        | none => none
      | _, _, _ => none
    | _, _, _ => none
  | _ => none

def minN (a b : Nat) : Nat := match Nat.ble a b with | true => a | false => b

/-- An operation that writes, or calls. -/
def evE (E : Env) (call : CallF) (env : Tr AV) (H : Hp) (o : Op) : Option (AV × Hp) :=
  match o with
  | .store t a x => match E.ty.get t, opnd env a, opnd env x with
    | some ti, some p, some v => match store H ti p v with
      | some H' => some (.undef, H')
      | none => none
    | _, _, _ => none
  | .mapUpdate t x i v | .insert t x i v => match (E.ty.get t).bind (fun ti => match ti.k with | .map kt _ => E.ty.get kt | _ => none), opnd env x, opnd env i, opnd env v with
    | some ki, some (.map b), some k, some v => match H.get b with
      | .map es => match ki.k.key && k.one && v.val with
        | true => match findKey ki.k k es 0 with
          | some (some (j, _)) => some (.undef, H.put b (.map (es.set j (k, v))))
          | some none => some (.undef, H.put b (.map (es ++ [(k, v)])))
          | none => none
        | false => none
      | _ => none
    | _, _, _, _ => none
  -- []byte of a constant: the bytes are there already
  | .convert s d x => match Nat.beq s d, E.ty.get s, opnd env x with
    | true, some si, some (.ref b off len m cap ex) => match si.k with
      | .sl e => match E.ty.get e, H.get b with
        | some ei, .cells cs => match ei.k, allU8 cs with
          | .int .u8, true => some (.ref b off len m cap ex, H)
          | _, _ => none
        | _, _ => none
      | _ => none
    | _, _, _ => none
  | .call c => match c.callee, opnds env c.args.toList with
    | .builtin b, some args => match b, args with
      | .append, [dst, src] => match (c.argTypes[0]?).bind E.ty.get, (c.argTypes[1]?).bind E.ty.get with
        | some ti, some tj => match ti.k, (match tj.k with | .sl _ => true | .str => true | _ => false) with
          | .sl e, true => match E.ty.get e, lenAV H src with
            | some ei, some n => match cellsOf H ei.sz n src with
              | some new => appendTo H ei dst n new
              | none => none
            | _, _ => none
          | _, _ => none
        | _, _ => none
      | .copy, [dst, src] => match (c.argTypes[0]?).bind E.ty.get with
        | some ti => match ti.k with
          | .sl e => match E.ty.get e, lenAV H dst, lenAV H src with
            | some ei, some dn, some sn => match cellsOf H ei.sz (minN dn sn) src with
              | some new => match dst with
                | .ref b off _ m _ _ => match H.get b with
                  | .cells cs => if m = ei.sz ∧ off + minN dn sn * m ≤ cs.length ∧ u8ok cs new = true then some (.int .i64 (minN dn sn), H.put b (.cells (overwrite cs off new))) else none
                  | _ => none
                | .nsl => some (.int .i64 0, H)
                | _ => none
              | none => none
            | _, _, _ => none
          | _ => none
        | none => none
      | .clear, [x] => match (c.argTypes[0]?).bind E.ty.get with
        | some ti => match ti.k with
          | .sl e => match E.ty.get e with
            | some ei => match x with
              | .ref b off len m _ _ => match len with
                | 0 => some (.tup [], H)
                | _ => match H.get b with
                  | .cells cs => if off + len * m ≤ cs.length ∧ ei.sz = m ∧ ei.zero.length = m ∧ u8ok cs (repeatCells ei.zero len) = true then some (.tup [], H.put b (.cells (overwrite cs off (repeatCells ei.zero len)))) else none
                  | _ => none
              | .nsl => some (.tup [], H)
              | .imm _ _ [] => some (.tup [], H)
              | _ => none
            | none => none
          | _ => none
        | none => none
      | _, _ => none
    | .value f, some args => match opnd env f with
      | some (.fn g caps) => call g (args ++ caps) H
      | _ => none
    | _, _ => none
  | _ => none

/-- One operation. -/
def evOp (E : Env) (call : CallF) (env : Tr AV) (H : Hp) (o : Oper) : Option (AV × Hp) :=
  match kindOf E o.op with
  | .pl => match evPL E env H o.op with
    | some v => some (v, H)
    | none => none
  | .al => match evA E env o.op with
    | some (f, x) => some (f H.n, H.push x)
    | none => none
  | .ef => evE E call env H o.op

/-- The operations one behind the other. -/
def evOps (E : Env) (call : CallF) (ops : Array Oper) : List Oper → Tr AV → Hp → Option (Tr AV × Hp)
  | [], env, H => some (env, H)
  | o :: rest, env, H => match wanted o ops env with
    | some true => match evOp E call env H o with
      | some (v, H') => evOps E call ops rest (putD env o.dst v) H'
      | none => none
    | some false => evOps E call ops rest (putD env o.dst (.tup [])) H
    | none => none

/-! A statement whose order is open: its operations are run in one order, and it is looked whether any other comes to the same. -/

def binds (e : Edge) : Bool := match e.ground with
  | .textOnly _ => false
  | .gcOnly _ => false
  | _ => true

/-- Of each operation the set of those that are surely before it (as bits). -/
def ancOf (acc : List Nat) : List Edge → Nat
  | [] => 0
  | e :: es => match binds e with
    | true => Nat.lor (Nat.lor (Nat.shiftLeft 1 e.on) (acc.getD e.on 0)) (ancOf acc es)
    | false => ancOf acc es

def ancs : List Oper → List Nat → List Nat
  | [], acc => acc
  | o :: os, acc => ancs os (acc ++ [ancOf acc o.after.toList])

def bit (m i : Nat) : Bool := Nat.testBit m i

/-- What was done at one place of the order. -/
structure Ent where
  i : Nat
  o : Oper
  env : Tr AV
  H : Hp
  wt : Bool
  v : AV
  H' : Hp

def trace (E : Env) (call : CallF) (ops : Array Oper) : List Nat → Tr AV → Hp → Option (List Ent × Tr AV × Hp)
  | [], env, H => some ([], env, H)
  | i :: ord, env, H => match ops[i]? with
    | none => none
    | some o => match wanted o ops env with
      | some true => match evOp E call env H o with
        | some (v, H') => match trace E call ops ord (putD env o.dst v) H' with
          | some (t, r) => some (⟨i, o, env, H, true, v, H'⟩ :: t, r)
          | none => none
        | none => none
      | some false => match trace E call ops ord (putD env o.dst (.tup [])) H with
        | some (t, r) => some (⟨i, o, env, H, false, .tup [], H⟩ :: t, r)
        | none => none
      | none => none

/-- The block that an operation reads. -/
def readsOf (env : Tr AV) (o : Op) : Option Nat :=
  match o with
  | .load _ a => match opnd env a with
    | some (.ptr b _) => some b
    | _ => none
  | .lookup _ x _ _ => match opnd env x with
    | some (.map b) => some b
    | _ => none
  | .convert _ _ x => match opnd env x with
    | some (.ref b _ _ _ _ _) => some b
    | _ => none
  | .call c => match opnds env c.args.toList with
    | some [.map b] => some b
    | _ => none
  | _ => none

/-- Does an entry do more than reckon, read, make a block? -/
def Ent.eff (E : Env) (x : Ent) : Bool := match x.wt, kindOf E x.o.op with
  | true, .ef => true
  | _, _ => false

def subset (a b : Nat) : Bool := Nat.beq (Nat.land a b) a

/-- All that is not done yet is behind operation e. -/
def laterAll (e done : Nat) : List Nat → Nat → Bool
  | [], _ => true
  | a :: as, i => match Nat.beq i e || bit done i || bit a e with
    | true => laterAll e done as (i + 1)
    | false => false

/-- What was read ahead is not written by an entry that need not be behind it. -/
def stable (a clk : Nat) (H' : Hp) : List Ent → Bool
  | [] => true
  | x :: xs => match x.wt, readsOf x.env x.o.op with
    | true, some b => match bit a x.i || (Nat.blt b x.H.n && Nat.blt (H'.ts b) clk) with
      | true => stable a clk H' xs
      | false => false
    | _, _ => stable a clk H' xs

def readOk (x : Ent) : Bool := match x.wt, readsOf x.env x.o.op with
  | true, some b => Nat.blt b x.H.n
  | _, _ => true

def orderOk (E : Env) (anc : List Nat) : List Ent → Nat → List Ent → Bool
  | [], done, _ => Nat.beq done (Nat.shiftLeft 1 anc.length - 1)
  | x :: xs, done, prev => match subset (anc.getD x.i 0) done && !bit done x.i && readOk x with
    | true => match (match x.eff E with
        | true => laterAll x.i done anc 0 && stable (anc.getD x.i 0) x.H.clk x.H' prev
        | false => true) with
      | true => orderOk E anc xs (Nat.lor done (Nat.shiftLeft 1 x.i)) (x :: prev)
      | false => false
    | false => false

def usesOf (ops : Array Oper) (o : Oper) : List Tmp :=
  (o.op.operands.toList.filterMap fun x => match x with | .tmp t => some t | _ => none) ++
  (match o.guard with
   | some (j, _) => (match (ops[j]?).bind (·.dst) with | some d => [d] | none => [])
   | none => [])

/-- Who writes a temporary. -/
def writerOf (t : Tmp) : List Oper → Nat → Option Nat
  | [], _ => none
  | o :: os, i => match o.dst with
    | some d => match Nat.beq d t with
      | true => some i
      | false => writerOf t os (i + 1)
    | none => writerOf t os (i + 1)

/-- Each temporary has one writer, and who uses it stands before or behind him. -/
def tmpsOk (ops : Array Oper) (anc : List Nat) : List Oper → Nat → Bool
  | [], _ => true
  | o :: os, i => match (match o.dst with | some d => (match writerOf d ops.toList 0 with | some k => Nat.beq k i | none => false) | none => true) &&
      (usesOf ops o).all (fun t => match writerOf t ops.toList 0 with | some j => Nat.beq j i || bit (anc.getD i 0) j || bit (anc.getD j 0) i | none => true) with
    | true => tmpsOk ops anc os (i + 1)
    | false => false

/-- The next one: one that makes or writes no more than its own, if there is one. -/
def pick1 (E : Env) (anc : List Nat) (done : Nat) (quiet : Bool) : List Oper → Nat → Option Nat
  | [], _ => none
  | o :: os, i => match !bit done i && subset (anc.getD i 0) done && (!quiet || (match kindOf E o.op with | .ef => false | _ => true)) with
    | true => some i
    | false => pick1 E anc done quiet os (i + 1)

def orderOf (E : Env) (anc : List Nat) (ops : List Oper) : Nat → Nat → List Nat
  | 0, _ => []
  | n + 1, done => match pick1 E anc done true ops 0 with
    | some i => i :: orderOf E anc ops n (Nat.lor done (Nat.shiftLeft 1 i))
    | none => match pick1 E anc done false ops 0 with
      | some i => i :: orderOf E anc ops n (Nat.lor done (Nat.shiftLeft 1 i))
      | none => []

def evDraw (E : Env) (call : CallF) (ops : Array Oper) (env : Tr AV) (H : Hp) : Option (Tr AV × Hp) :=
  match ancs ops.toList [] with
  | anc => match tmpsOk ops anc ops.toList 0 with
    | true => match trace E call ops (orderOf E anc ops.toList ops.size 0) env H with
      | some (t, r) => match orderOk E anc t 0 [] with
        | true => some r
        | false => none
      | none => none
    | false => none

inductive Out where
  | normal | exit (id : Nat) | ret

def evLoop (body : Tr AV → Hp → Option (Out × Tr AV × Hp)) : Nat → Tr AV → Hp → Option (Out × Tr AV × Hp)
  | 0, _, _ => none
  | n + 1, env, H => match body env H with
    | some (.normal, env', H') => evLoop body n env' H'
    | r => r

def ev (E : Env) (call : CallF) (rounds : Nat) : Code → Tr AV → Hp → Option (Out × Tr AV × Hp)
  | .skip, env, H => some (.normal, env, H)
  | .region _ ops draw, env, H => match (match draw with | true => evDraw E call ops env H | false => evOps E call ops ops.toList env H) with
    | some (env', H') => some (.normal, env', H')
    | none => none
  | .seq a b, env, H => match ev E call rounds a env H with
    | some (.normal, env', H') => ev E call rounds b env' H'
    | r => r
  | .cond c a b, env, H => match opnd env c with
    | some (.bool true) => ev E call rounds a env H
    | some (.bool false) => ev E call rounds b env H
    | _ => none
  | .block id a, env, H => match ev E call rounds a env H with
    | some (.exit i, env', H') => match Nat.beq i id with
      | true => some (.normal, env', H')
      | false => some (.exit i, env', H')
    | r => r
  | .loop a, env, H => evLoop (ev E call rounds a) rounds env H
  | .exit i, env, H => some (.exit i, env, H)
  | .ret, env, H => some (.ret, env, H)
  | .label _, env, H => some (.normal, env, H)
  | _, _, _ => none

def resultsOf (E : Env) (env : Tr AV) (H : Hp) : List ResultVar → Option (List AV)
  | [] => some []
  | .tmp t :: rest => match resultsOf E env H rest with
    | some l => match env.get t with
      | some v => some (v :: l)
      | none => some (.undef :: l)
    | none => none
  | .cell a t :: rest => match resultsOf E env H rest, env.get a, E.ty.get t with
    | some l, some p, some ti => match load H ti p with
      | some v => some (v :: l)
      | none => none
    | _, _, _ => none

def enter : List AV → Nat → Tr AV → Tr AV
  | [], _, env => env
  | a :: as, i, env => enter as (i + 1) (env.put i a)

def evBody (E : Env) (call : CallF) (rounds : Nat) (fi : FI) (args : List AV) (H : Hp) : Option (AV × Hp) :=
  match ev E call rounds fi.body (enter args 0 .leaf) H with
  | some (.exit _, _, _) => none
  | some (_, env, H') => match resultsOf E env H' fi.results with
    | some [v] => some (v, H')
    | some l => some (.tup l, H')
    | none => none
  | none => none

def evFn (E : Env) (rounds : Nat) : Nat → CallF
  | 0, _, _, _ => none
  | n + 1, f, args, H => match E.prim.get f with
    | some p => p args H
    | none => match E.fn.get f with
      | some fi => evBody E (evFn E rounds n) rounds fi args H
      | none => none

end Go.Ab
