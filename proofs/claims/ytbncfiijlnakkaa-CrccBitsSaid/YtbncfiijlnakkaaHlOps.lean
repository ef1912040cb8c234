import Derived.Test.YtbncfiijlnakkaaHlDef
/-! Hl: types as it needs them, operations. -/
namespace Go.Hl

inductive Ty where
  | bool | int (k : IntKind) | str
  | ptr (e : TypeId)
  | slice (e : TypeId) (esz ebytes : Nat)
  | struct (fs : List (Nat × Nat × Bool))
  | arr (n esz : Nat) (eagg : Bool)
  | other
  deriving Inhabited

structure TI where
  sz : Nat
  agg : Bool
  bytes : Nat
  zero : List V
  d : Ty
  deriving Inhabited

/-- A cell of the program's own as a value. -/
def ofCell : Value → V
  | .bool b => .bool b
  | .int k n => .int k n
  | .string s => .str s.data.toList
  | .pointer none => .nilp
  | .slice none 0 0 => .nils
  | .nilFunc => .nilf
  | .nilIface => .nili
  | _ => .undef
def ofVal : Value → V
  | .agg cs => .agg (cs.toList.map ofCell)
  | v => ofCell v

def aggD : TypeDesc → Bool
  | .struct _ => true
  | .array _ _ => true
  | _ => false
def isIntD : TypeDesc → Bool
  | .int _ => true
  | _ => false
def fieldsOf (P : Program) : List Field → Option (List (Nat × Nat × Bool))
  | [] => some []
  | f :: l =>
    match P.info? f.type, P.underlying f.type, fieldsOf P l with
    | some i, some u, some r => if i.size = 0 then none else some ((f.offset, i.size, aggD u) :: r)
    | _, _, _ => none
def tyOf (P : Program) : TypeDesc → Option Ty
  | .bool => some .bool
  | .int k => some (.int k)
  | .string => some .str
  | .pointer e => some (.ptr e)
  | .slice e => match P.info? e with
    | some i => some (.slice e i.size i.bytes)
    | none => none
  | .struct fs => match fieldsOf P fs.toList with
    | some l => some (.struct l)
    | none => some .other
  | .array n e => match P.info? e, P.underlying e with
    | some i, some u => some (.arr n i.size (aggD u))
    | _, _ => none
  | _ => some .other
def ti (P : Program) (t : TypeId) : Option TI :=
  match P.info? t, P.underlying t with
  | some i, some u =>
    match i.zero, tyOf P u with
    | some z, some d => some { sz := i.size, agg := aggD u, bytes := i.bytes, zero := z.cells.toList.map ofCell, d }
    | _, _ => none
  | _, _ => none

/-! ### Numbers, strings, tests -/
def bitsOp (op : BinOp) (k : IntKind) (x y : Int) : Option Int :=
  let a := BitVec.ofInt k.bits x
  let b := BitVec.ofInt k.bits y
  match op with
  | .and => some (k.wrap ((a &&& b).toNat))
  | .or => some (k.wrap ((a ||| b).toNat))
  | .xor => some (k.wrap ((a ^^^ b).toNat))
  | .andNot => some (k.wrap ((a &&& ~~~b).toNat))
  | _ => none
def intOp (op : BinOp) (k : IntKind) (x y : Int) : Option V :=
  match op with
  | .add => some (.int k (k.wrap (x + y)))
  | .sub => some (.int k (k.wrap (x - y)))
  | .mul => some (.int k (k.wrap (x * y)))
  | .quo => if y = 0 then none else some (.int k (k.wrap (x.tdiv y)))
  | .rem => if y = 0 then none else some (.int k (x.tmod y))
  | .and => (bitsOp .and k x y).map (.int k)
  | .or => (bitsOp .or k x y).map (.int k)
  | .xor => (bitsOp .xor k x y).map (.int k)
  | .andNot => (bitsOp .andNot k x y).map (.int k)
  | .eql => some (.bool (x == y))
  | .neq => some (.bool (x != y))
  | .lss => some (.bool (decide (x < y)))
  | .leq => some (.bool (decide (x ≤ y)))
  | .gtr => some (.bool (decide (x > y)))
  | .geq => some (.bool (decide (x ≥ y)))
  | _ => none
def shiftOp (op : BinOp) (k : IntKind) (x y : Int) : Option V :=
  if y < 0 then none else
  match op with
  | .shl => some (.int k (k.wrap (x * 2 ^ (min y.toNat k.bits))))
  | .shr => some (.int k (x.fdiv (2 ^ (min y.toNat k.bits))))
  | _ => none
def strLt : List UInt8 → List UInt8 → Bool := Op.bytesLess
def strOp (op : BinOp) (x y : List UInt8) : Option V :=
  match op with
  | .add => if x.length + y.length ≤ 9223372036854775807 then some (.str (x ++ y)) else none
  | .eql => some (.bool (x == y))
  | .neq => some (.bool !(x == y))
  | .lss => some (.bool (strLt x y))
  | .leq => some (.bool (strLt x y || x == y))
  | .gtr => some (.bool !(strLt x y || x == y))
  | .geq => some (.bool !(strLt x y))
  | _ => none

/-- Cells that may be held against each other one by one. -/
def cellsEq : List V → List V → Option Bool
  | [], [] => some true
  | .int k a :: l, .int k' b :: m => if k = k' then (cellsEq l m).map fun r => a == b && r else none
  | .str a :: l, .str b :: m => (cellsEq l m).map fun r => a == b && r
  | .bool a :: l, .bool b :: m => (cellsEq l m).map fun r => a == b && r
  | _, _ => none
inductive Leaf where
  | b | i | s
  deriving DecidableEq
/-- A type whose values are held against each other cell by cell: the cells' kinds. -/
def flatSh (P : Program) : Nat → TypeId → Option (List Leaf)
  | 0, _ => none
  | d + 1, t =>
    match P.info? t, P.underlying t with
    | some i, some .bool => if i.size = 1 then some [.b] else none
    | some i, some (.int _) => if i.size = 1 then some [.i] else none
    | some i, some .string => if i.size = 1 then some [.s] else none
    | some i, some (.struct fs) => if P.stoodInHeld t then none else
      match flatFs P d fs.toList 0 with
      | some l => if l.length = i.size then some l else none
      | none => none
    | _, _ => none
where
  flatFs (P : Program) (d : Nat) : List Field → Nat → Option (List Leaf)
    | [], _ => some []
    | f :: l, n => if f.name ≠ "_" ∧ f.offset = n then
        match flatSh P d f.type with
        | some s => (flatFs P d l (n + s.length)).map fun r => s ++ r
        | none => none
      else none
def fits : List Leaf → List V → Bool
  | [], [] => true
  | .b :: l, .bool _ :: m => fits l m
  | .i :: l, .int _ _ :: m => fits l m
  | .s :: l, .str _ :: m => fits l m
  | _, _ => false

def eqOp (P : Program) (t : TypeId) (x y : V) : Option Bool :=
  match P.underlying t, x, y with
  | some .bool, .bool a, .bool b => some (a == b)
  | some (.pointer _), .nilp, .nilp => some true
  | some (.pointer _), .nilp, .ptr _ _ _ _ => some false
  | some (.pointer _), .ptr _ _ _ _, .nilp => some false
  | some (.slice _), .nils, .nils => some true
  | some (.slice _), .nils, .sl _ _ _ _ _ _ => some false
  | some (.slice _), .sl _ _ _ _ _ _, .nils => some false
  | some (.struct _), .agg a, .agg b => match flatSh P 100 t with
    | some sh => if fits sh a && fits sh b && !P.eqGuardType P.depth t then cellsEq a b else none
    | none => none
  | _, _, _ => none

def binV (P : Program) (op : BinOp) (t : TypeId) (x y : V) : Option V :=
  match x, y with
  | .int k a, .int k' b =>
    match op with
    | .shl => shiftOp .shl k a b
    | .shr => shiftOp .shr k a b
    | _ => if k = k' then intOp op k a b else none
  | .str a, .str b => strOp op a b
  | _, _ =>
    match op with
    | .eql => (eqOp P t x y).map .bool
    | .neq => (eqOp P t x y).map fun b => .bool !b
    | _ => none

def unV (op : UnOp) (x : V) : Option V :=
  match op, x with
  | .neg, .int k n => some (.int k (k.wrap (0 - n)))
  | .xor, .int k n => (bitsOp .xor k (if k.signed then -1 else k.max) n).map (.int k)
  | .not, .bool b => some (.bool !b)
  | _, _ => none

/-! ### Bounds -/
def idx (y : Nat) : V → Option Nat
  | .int _ i => if 0 ≤ i ∧ i ≤ y then some i.toNat else none
  | _ => none
def idxLt (y : Nat) : V → Option Nat
  | .int _ i => if 0 ≤ i ∧ i < y then some i.toNat else none
  | _ => none
def optIdx (y d : Nat) : Option V → Option Nat
  | none => some d
  | some v => idx y v

def minV (x y : V) : Option V :=
  match x, y with
  | .int k a, .int k' b => if k = k' then some (.int k (if b < a then b else a)) else none
  | _, _ => none
def maxV (x y : V) : Option V :=
  match x, y with
  | .int k a, .int k' b => if k = k' then some (.int k (if b > a then b else a)) else none
  | _, _ => none
def lenOp (P : Program) (t : TypeId) (x : V) : Option V :=
  match P.underlying t with
  | some .string => match x with
    | .str s => some (.int .i64 s.length)
    | _ => none
  | some (.slice _) => match x with
    | .sl _ _ n _ _ _ => some (.int .i64 n)
    | .nils => some (.int .i64 0)
    | _ => none
  | some (.array n _) => some (.int .i64 n)
  | _ => none
/-- len, min, max. -/
def callPure (P : Program) (c : Call) (ρ : Operand → V) : Option V :=
  match c.callee with
  | .builtin b => match b with
    | .len => match c.argTypes.toList, c.args.toList with
      | t :: _, x :: _ => lenOp P t (ρ x)
      | _, _ => none
    | .min => match c.args.toList with
      | [a, b] => minV (ρ a) (ρ b)
      | _ => none
    | .max => match c.args.toList with
      | [a, b] => maxV (ρ a) (ρ b)
      | _ => none
    | _ => none
  | _ => none

/-- What an operation gives without a look at memory. -/
def pureOp (P : Program) (o : Oper) (ρ : Operand → V) : Option V :=
  match o.op with
  | .move x => some (ρ x)
  | .assign x => some (ρ x)
  | .pick c a b => match ρ c with
    | .bool t => some (cond t (ρ a) (ρ b))
    | _ => none
  | .nilCheck x => match ρ x with
    | .ptr b o v z => some (.ptr b o v z)
    | _ => none
  | .binOp op t x y _ => binV P op t (ρ x) (ρ y)
  | .unOp op _ x => unV op (ρ x)
  | .convert s t x => match P.underlying s, P.underlying t, ρ x with
    | some (.int _), some (.int k), .int _ n => some (.int k (k.wrap n))
    | some .string, some .string, .str l => some (.str l)
    | _, _, _ => none
  | .build t parts => if parts.toList.any (fun p => (ρ p.2).isU) then none else match ti P t with
    | some i => match i.d with
      | .struct fs => (fillF fs i.zero (parts.toList.map fun p => (p.1, ρ p.2))).map .agg
      | .arr n esz _ => (fillA n esz i.zero (parts.toList.map fun p => (p.1, ρ p.2))).map .agg
      | _ => none
    | none => none
  | .slice t x lo hi none => match ti P t with
    | some i => match i.d, ρ x with
      | .str, .str s => match optIdx s.length s.length (hi.map ρ) with
        | some h => match optIdx h 0 (lo.map ρ) with
          | some l => some (.str ((s.take h).drop l))
          | none => none
        | none => none
      | .slice _ esz _, .sl b off len ver ez lim => match optIdx len len (hi.map ρ) with
        | some h => match optIdx h 0 (lo.map ρ) with
          | some l => if (lim = true ∧ h < len) ∨ ez ≠ esz then none else some (.sl b (off + l * esz) (h - l) ver esz lim)
          | none => none
        | none => none
      | .slice _ _ _, .nils => match optIdx 0 0 (hi.map ρ) with
        | some h => match optIdx h 0 (lo.map ρ) with
          | some _ => some .nils
          | none => none
        | none => none
      | _, _ => none
    | none => none
  | .fieldAddr s x f => match ti P s with
    | some i => match i.d, ρ x with
      | .struct fs, .ptr b off ver z => match fs[f]? with
        | some q => some (.ptr b (off + q.1) ver z)
        | none => none
      | _, _ => none
    | none => none
  | .field s x f => match ti P s with
    | some i => match i.d, ρ x with
      | .struct fs, .agg l => match fs[f]? with
        | some q => partOf l q.1 q.2.1 q.2.2
        | none => none
      | _, _ => none
    | none => none
  | .indexAddr t x y => match ti P t with
    | some i => match i.d, ρ x with
      | .slice _ esz _, .sl b off len ver ez _ => match idxLt len (ρ y) with
        | some j => if ez = esz then some (.ptr b (off + j * esz) ver (off + j * esz + esz)) else none
        | none => none
      | .arr n esz _, .ptr b off ver z => match idxLt n (ρ y) with
        | some j => if off + n * esz ≤ z then some (.ptr b (off + j * esz) ver (off + j * esz + esz)) else none
        | none => none
      | _, _ => none
    | none => none
  | .index t x y => match ti P t with
    | some i => match i.d, ρ x with
      | .str, .str s => match idxLt s.length (ρ y) with
        | some j => some (.int .u8 (s.getD j 0).toNat)
        | none => none
      | .arr n esz g, .agg l => match idxLt n (ρ y) with
        | some j => partOf l (j * esz) esz g
        | none => none
      | _, _ => none
    | none => none
  | .extract t i => match ρ t with
    | .tup l => l[i]?
    | _ => none
  | .makeFunc f a c => some (.fn f (a.toList.map ρ) (c.toList.map ρ))
  | .makeInterface t x => match P.underlying t with
    | some (.interface _) => none
    | some _ => some (.iface t (ρ x))
    | none => none
  | .call c => callPure P c ρ
  | _ => none
where
  partOf (l : List V) (o n : Nat) (g : Bool) : Option V :=
    if o + n ≤ l.length then
      cond g (some (.agg ((l.drop o).take n))) l[o]?
    else none
  fillF (fs : List (Nat × Nat × Bool)) (cells : List V) : List (Nat × V) → Option (List V)
    | [] => some cells
    | (i, v) :: r => match fs[i]? with
      | some (o, n, _) => if v.cells.length = n ∧ o + n ≤ cells.length then fillF fs (splice cells o v.cells) r else none
      | none => none
  fillA (n esz : Nat) (cells : List V) : List (Nat × V) → Option (List V)
    | [] => some cells
    | (i, v) :: r => if v.cells.length = esz ∧ i * esz + esz ≤ cells.length then fillA n esz (splice cells (i * esz) v.cells) r else none

end Go.Hl
