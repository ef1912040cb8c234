/- Part 1 of the library and the walks that the law's proof stands on: no condition. -/
import Derived.Calls
import Derived.Below
import Derived.Laws.IdiomCopy
import Derived.Laws.Concat
import Derived.Laws.Entries
import Derived.Laws.Build
import Derived.Lib.Strings
import Derived.Laws.StructEq
import Derived.Laws.IdiomStrings
import Derived.Laws.Cells
import Derived.Laws.MakeOwn
import Derived.Laws.Append
import Derived.Laws.AppendOwn
import Derived.Tactics
section
/-! Hl: a deterministic evaluator of loaded code, without a tape, capacities or true addresses: its values, its memory, its operations. -/
namespace Go.Hl

/-- A value. A pointer and a slice name a block, a place in it, and which growth of the block they came with; a pointer, up to where it may be read. -/
inductive V where
  | bool (b : Bool)
  | int (k : IntKind) (n : Int)
  | str (s : List UInt8)
  | nilp
  | ptr (b off ver e : Nat)
  | nils
  | sl (b off len ver esz : Nat) (lim : Bool)
  | fn (f : Fn) (first caps : List V)
  | nilf
  | agg (l : List V)
  | tup (l : List V)
  | iface (t : TypeId) (v : V)
  | nili
  deriving Inhabited

/-- What is not known, or does not matter. -/
abbrev V.undef : V := .tup []

mutual
def V.same : V → V → Bool
  | .bool a, .bool b => a == b
  | .int k a, .int k' b => k == k' && a == b
  | .str a, .str b => a == b
  | .nilp, .nilp => true
  | .ptr a b c d, .ptr a' b' c' d' => a == a' && b == b' && c == c' && d == d'
  | .nils, .nils => true
  | .sl a b c d e f, .sl a' b' c' d' e' f' => a == a' && b == b' && c == c' && d == d' && e == e' && f == f'
  | .fn f a b, .fn f' a' b' => decide (f = f') && V.sames a a' && V.sames b b'
  | .nilf, .nilf => true
  | .agg a, .agg b => V.sames a b
  | .tup a, .tup b => V.sames a b
  | .iface t a, .iface t' b => t == t' && V.same a b
  | .nili, .nili => true
  | _, _ => false
def V.sames : List V → List V → Bool
  | [], [] => true
  | a :: l, b :: l' => V.same a b && V.sames l l'
  | _, _ => false
end

mutual
theorem V.same_eq : ∀ {a b : V}, V.same a b = true → a = b
  | .bool _, b, h | .int _ _, b, h | .str _, b, h | .nilp, b, h | .ptr _ _ _ _, b, h | .nils, b, h | .sl _ _ _ _ _ _, b, h | .nilf, b, h | .nili, b, h => by
    cases b <;> simp_all [V.same]
  | .fn f a c, b, h => by
    cases b <;> simp_all [V.same]
    exact ⟨V.sames_eq h.1.2, V.sames_eq h.2⟩
  | .agg a, b, h => by
    cases b <;> simp_all [V.same]
    exact V.sames_eq h
  | .tup a, b, h => by
    cases b <;> simp_all [V.same]
    exact V.sames_eq h
  | .iface t a, b, h => by
    cases b <;> simp_all [V.same]
    exact V.same_eq h.2
theorem V.sames_eq : ∀ {a b : List V}, V.sames a b = true → a = b
  | [], b, h => by cases b <;> simp_all [V.sames]
  | x :: l, b, h => by
    cases b with
    | nil => simp [V.sames] at h
    | cons y m =>
      simp only [V.sames, Bool.and_eq_true] at h
      rw [V.same_eq h.1, V.sames_eq h.2]
end
mutual
@[simp] theorem V.same_refl : ∀ a : V, V.same a a = true
  | .bool _ | .int _ _ | .str _ | .nilp | .ptr _ _ _ _ | .nils | .sl _ _ _ _ _ _ | .nilf | .nili => by simp [V.same]
  | .fn f a c => by simp [V.same, V.sames_refl a, V.sames_refl c]
  | .agg a => by simp [V.same, V.sames_refl a]
  | .tup a => by simp [V.same, V.sames_refl a]
  | .iface t a => by simp [V.same, V.same_refl a]
@[simp] theorem V.sames_refl : ∀ a : List V, V.sames a a = true
  | [] => by simp [V.sames]
  | x :: l => by simp [V.sames, V.same_refl x, V.sames_refl l]
end

mutual
/-- All blocks that it names lie below. -/
def V.under (n : Nat) : V → Bool
  | .ptr b _ _ _ => decide (b < n)
  | .sl b _ _ _ _ _ => decide (b < n)
  | .fn _ a c => V.unders n a && V.unders n c
  | .agg l => V.unders n l
  | .tup l => V.unders n l
  | .iface _ v => V.under n v
  | _ => true
def V.unders (n : Nat) : List V → Bool
  | [] => true
  | v :: l => V.under n v && V.unders n l
end

/-- A block: its cells, how often it grew, from which growth on its cells may be read by elder slices, whether it may be written. -/
structure Blk where
  cells : List V
  gen : Nat
  valid : Nat
  ro : Bool
  deriving Inhabited

/-- Memory: blocks; and which block was given a name of a younger one (since the call began). -/
structure H where
  blks : List Blk
  esc : List (Nat × Nat)
  deriving Inhabited

mutual
/-- The blocks from n on that a value names. -/
def V.upto (n : Nat) : V → List Nat
  | .ptr b _ _ _ => if b < n then [] else [b]
  | .sl b _ _ _ _ _ => if b < n then [] else [b]
  | .fn _ a c => V.uptos n a ++ V.uptos n c
  | .agg l => V.uptos n l
  | .tup l => V.uptos n l
  | .iface _ v => V.upto n v
  | _ => []
def V.uptos (n : Nat) : List V → List Nat
  | [] => []
  | v :: l => V.upto n v ++ V.uptos n l
end

/-- A cell's value: no row of cells, nothing unknown. -/
def V.cellOk : V → Bool
  | .agg _ => false
  | .tup _ => false
  | _ => true

def H.size (h : H) : Nat := h.blks.length
/-- A new block. -/
def H.new (h : H) (cells : List V) : H := { h with blks := h.blks ++ [{ cells, gen := 0, valid := 0, ro := false }] }
/-- Cells that are read: n of them. -/
def H.read (h : H) (b off ver n : Nat) : Option (List V) :=
  match h.blks[b]? with
  | some k => if k.valid ≤ ver ∧ ver ≤ k.gen then some ((k.cells.drop off).take n) else none
  | none => none
/-- Cells that are written. -/
def splice (l : List V) (off : Nat) (vs : List V) : List V := l.take off ++ vs ++ l.drop (off + vs.length)
def escs (b : Nat) (vs : List V) : List (Nat × Nat) := (V.uptos b vs).map fun r => (b, r)
def H.write (h : H) (b off ver : Nat) (vs : List V) : Option H :=
  match h.blks[b]? with
  | some k =>
    if k.ro = false ∧ ver = k.gen ∧ off + vs.length ≤ k.cells.length ∧ vs.all V.cellOk then
      some { blks := h.blks.set b { k with cells := splice k.cells off vs, valid := k.gen }, esc := h.esc ++ escs b vs }
    else none
  | none => none
/-- A block that grows behind its last cell: what it has then is of the next growth. -/
def H.grow (h : H) (b ver : Nat) (vs : List V) : Option H :=
  match h.blks[b]? with
  | some k =>
    if k.ro = false ∧ ver = k.gen ∧ vs.all V.cellOk then
      some { blks := h.blks.set b { k with cells := k.cells ++ vs, gen := k.gen + 1 }, esc := h.esc ++ escs b vs }
    else none
  | none => none

/-- Is it not known? -/
def V.isU : V → Bool
  | .tup [] => true
  | _ => false

def V.cells : V → List V
  | .agg l => l
  | v => [v]

end Go.Hl
end
section
/-! Hl: types as it needs them, operations. -/
namespace Go.Hl

inductive Ty where
  | bool | int (k : IntKind) | str
  | ptr (e : TypeId)
  | slice (e : TypeId) (esz ebytes : Nat)
  | struct (fs : List (Nat × Nat × Bool))
  | arr (n esz : Nat) (eagg : Bool)
  | other
  deriving Inhabited

structure TI where
  sz : Nat
  agg : Bool
  bytes : Nat
  zero : List V
  d : Ty
  deriving Inhabited

/-- A cell of the program's own as a value. -/
def ofCell : Value → V
  | .bool b => .bool b
  | .int k n => .int k n
  | .string s => .str s.data.toList
  | .pointer none => .nilp
  | .slice none 0 0 => .nils
  | .nilFunc => .nilf
  | .nilIface => .nili
  | _ => .undef
def ofVal : Value → V
  | .agg cs => .agg (cs.toList.map ofCell)
  | v => ofCell v

def aggD : TypeDesc → Bool
  | .struct _ => true
  | .array _ _ => true
  | _ => false
def isIntD : TypeDesc → Bool
  | .int _ => true
  | _ => false
def fieldsOf (P : Program) : List Field → Option (List (Nat × Nat × Bool))
  | [] => some []
  | f :: l =>
    match P.info? f.type, P.underlying f.type, fieldsOf P l with
    | some i, some u, some r => if i.size = 0 then none else some ((f.offset, i.size, aggD u) :: r)
    | _, _, _ => none
def tyOf (P : Program) : TypeDesc → Option Ty
  | .bool => some .bool
  | .int k => some (.int k)
  | .string => some .str
  | .pointer e => some (.ptr e)
  | .slice e => match P.info? e with
    | some i => some (.slice e i.size i.bytes)
    | none => none
  | .struct fs => match fieldsOf P fs.toList with
    | some l => some (.struct l)
    | none => some .other
  | .array n e => match P.info? e, P.underlying e with
    | some i, some u => some (.arr n i.size (aggD u))
    | _, _ => none
  | _ => some .other
def ti (P : Program) (t : TypeId) : Option TI :=
  match P.info? t, P.underlying t with
  | some i, some u =>
    match i.zero, tyOf P u with
    | some z, some d => some { sz := i.size, agg := aggD u, bytes := i.bytes, zero := z.cells.toList.map ofCell, d }
    | _, _ => none
  | _, _ => none

/-! ### Numbers, strings, tests -/
def bitsOp (op : BinOp) (k : IntKind) (x y : Int) : Option Int :=
  let a := BitVec.ofInt k.bits x
  let b := BitVec.ofInt k.bits y
  match op with
  | .and => some (k.wrap ((a &&& b).toNat))
  | .or => some (k.wrap ((a ||| b).toNat))
  | .xor => some (k.wrap ((a ^^^ b).toNat))
  | .andNot => some (k.wrap ((a &&& ~~~b).toNat))
  | _ => none
def intOp (op : BinOp) (k : IntKind) (x y : Int) : Option V :=
  match op with
  | .add => some (.int k (k.wrap (x + y)))
  | .sub => some (.int k (k.wrap (x - y)))
  | .mul => some (.int k (k.wrap (x * y)))
  | .quo => if y = 0 then none else some (.int k (k.wrap (x.tdiv y)))
  | .rem => if y = 0 then none else some (.int k (x.tmod y))
  | .and => (bitsOp .and k x y).map (.int k)
  | .or => (bitsOp .or k x y).map (.int k)
  | .xor => (bitsOp .xor k x y).map (.int k)
  | .andNot => (bitsOp .andNot k x y).map (.int k)
  | .eql => some (.bool (x == y))
  | .neq => some (.bool (x != y))
  | .lss => some (.bool (decide (x < y)))
  | .leq => some (.bool (decide (x ≤ y)))
  | .gtr => some (.bool (decide (x > y)))
  | .geq => some (.bool (decide (x ≥ y)))
  | _ => none
def shiftOp (op : BinOp) (k : IntKind) (x y : Int) : Option V :=
  if y < 0 then none else
  match op with
  | .shl => some (.int k (k.wrap (x * 2 ^ (min y.toNat k.bits))))
  | .shr => some (.int k (x.fdiv (2 ^ (min y.toNat k.bits))))
  | _ => none
def strLt : List UInt8 → List UInt8 → Bool := Op.bytesLess
def strOp (op : BinOp) (x y : List UInt8) : Option V :=
  match op with
  | .add => if x.length + y.length ≤ 9223372036854775807 then some (.str (x ++ y)) else none
  | .eql => some (.bool (x == y))
  | .neq => some (.bool !(x == y))
  | .lss => some (.bool (strLt x y))
  | .leq => some (.bool (strLt x y || x == y))
  | .gtr => some (.bool !(strLt x y || x == y))
  | .geq => some (.bool !(strLt x y))
  | _ => none

/-- Cells that may be held against each other one by one. -/
def cellsEq : List V → List V → Option Bool
  | [], [] => some true
  | .int k a :: l, .int k' b :: m => if k = k' then (cellsEq l m).map fun r => a == b && r else none
  | .str a :: l, .str b :: m => (cellsEq l m).map fun r => a == b && r
  | .bool a :: l, .bool b :: m => (cellsEq l m).map fun r => a == b && r
  | _, _ => none
inductive Leaf where
  | b | i | s
  deriving DecidableEq
/-- A type whose values are held against each other cell by cell: the cells' kinds. -/
def flatSh (P : Program) : Nat → TypeId → Option (List Leaf)
  | 0, _ => none
  | d + 1, t =>
    match P.info? t, P.underlying t with
    | some i, some .bool => if i.size = 1 then some [.b] else none
    | some i, some (.int _) => if i.size = 1 then some [.i] else none
    | some i, some .string => if i.size = 1 then some [.s] else none
    | some i, some (.struct fs) => if P.stoodInHeld t then none else
      match flatFs P d fs.toList 0 with
      | some l => if l.length = i.size then some l else none
      | none => none
    | some i, some (.array n e) =>
      match flatSh P d e with
      | some s => if n * s.length = i.size ∧ 0 < s.length then some (List.replicate n s).flatten else none
      | none => none
    | _, _ => none
where
  flatFs (P : Program) (d : Nat) : List Field → Nat → Option (List Leaf)
    | [], _ => some []
    | f :: l, n => if f.name ≠ "_" ∧ f.offset = n then
        match flatSh P d f.type with
        | some s => (flatFs P d l (n + s.length)).map fun r => s ++ r
        | none => none
      else none
def fits : List Leaf → List V → Bool
  | [], [] => true
  | .b :: l, .bool _ :: m => fits l m
  | .i :: l, .int _ _ :: m => fits l m
  | .s :: l, .str _ :: m => fits l m
  | _, _ => false

def eqOp (P : Program) (t : TypeId) (x y : V) : Option Bool :=
  match P.underlying t, x, y with
  | some .bool, .bool a, .bool b => some (a == b)
  | some (.pointer _), .nilp, .nilp => some true
  | some (.pointer _), .nilp, .ptr _ _ _ _ => some false
  | some (.pointer _), .ptr _ _ _ _, .nilp => some false
  | some (.slice _), .nils, .nils => some true
  | some (.slice _), .nils, .sl _ _ _ _ _ _ => some false
  | some (.slice _), .sl _ _ _ _ _ _, .nils => some false
  | some (.struct _), .agg a, .agg b => match flatSh P 100 t with
    | some sh => if fits sh a && fits sh b && !P.eqGuardType P.depth t then cellsEq a b else none
    | none => none
  | _, _, _ => none

def binV (P : Program) (op : BinOp) (t : TypeId) (x y : V) : Option V :=
  match x, y with
  | .int k a, .int k' b =>
    match op with
    | .shl => shiftOp .shl k a b
    | .shr => shiftOp .shr k a b
    | _ => if k = k' then intOp op k a b else none
  | .str a, .str b => strOp op a b
  | _, _ =>
    match op with
    | .eql => (eqOp P t x y).map .bool
    | .neq => (eqOp P t x y).map fun b => .bool !b
    | _ => none

def unV (op : UnOp) (x : V) : Option V :=
  match op, x with
  | .neg, .int k n => some (.int k (k.wrap (0 - n)))
  | .xor, .int k n => (bitsOp .xor k (if k.signed then -1 else k.max) n).map (.int k)
  | .not, .bool b => some (.bool !b)
  | _, _ => none

/-! ### Bounds -/
def idx (y : Nat) : V → Option Nat
  | .int _ i => if 0 ≤ i ∧ i ≤ y then some i.toNat else none
  | _ => none
def idxLt (y : Nat) : V → Option Nat
  | .int _ i => if 0 ≤ i ∧ i < y then some i.toNat else none
  | _ => none
def optIdx (y d : Nat) : Option V → Option Nat
  | none => some d
  | some v => idx y v

def minV (x y : V) : Option V :=
  match x, y with
  | .int k a, .int k' b => if k = k' then some (.int k (if b < a then b else a)) else none
  | _, _ => none
def maxV (x y : V) : Option V :=
  match x, y with
  | .int k a, .int k' b => if k = k' then some (.int k (if b > a then b else a)) else none
  | _, _ => none
def lenOp (P : Program) (t : TypeId) (x : V) : Option V :=
  match P.underlying t with
  | some .string => match x with
    | .str s => some (.int .i64 s.length)
    | _ => none
  | some (.slice _) => match x with
    | .sl _ _ n _ _ _ => some (.int .i64 n)
    | .nils => some (.int .i64 0)
    | _ => none
  | some (.array n _) => some (.int .i64 n)
  | _ => none
/-- len, min, max. -/
def callPure (P : Program) (c : Call) (ρ : Operand → V) : Option V :=
  match c.callee with
  | .builtin b => match b with
    | .len => match c.argTypes.toList, c.args.toList with
      | t :: _, x :: _ => lenOp P t (ρ x)
      | _, _ => none
    | .min => match c.args.toList with
      | [a, b] => minV (ρ a) (ρ b)
      | _ => none
    | .max => match c.args.toList with
      | [a, b] => maxV (ρ a) (ρ b)
      | _ => none
    | _ => none
  | _ => none

/-- What an operation gives without a look at memory. -/
def pureOp (P : Program) (o : Oper) (ρ : Operand → V) : Option V :=
  match o.op with
  | .move x => some (ρ x)
  | .assign x => some (ρ x)
  | .pick c a b => match ρ c with
    | .bool t => some (cond t (ρ a) (ρ b))
    | _ => none
  | .nilCheck x => match ρ x with
    | .ptr b o v z => some (.ptr b o v z)
    | _ => none
  | .binOp op t x y _ => binV P op t (ρ x) (ρ y)
  | .unOp op _ x => unV op (ρ x)
  | .convert s t x => match P.underlying s, P.underlying t, ρ x with
    | some (.int _), some (.int k), .int _ n => some (.int k (k.wrap n))
    | some .string, some .string, .str l => some (.str l)
    | _, _, _ => none
  | .build t parts => if parts.toList.any (fun p => (ρ p.2).isU) then none else match ti P t with
    | some i => match i.d with
      | .struct fs => (fillF fs i.zero (parts.toList.map fun p => (p.1, ρ p.2))).map .agg
      | .arr n esz _ => (fillA n esz i.zero (parts.toList.map fun p => (p.1, ρ p.2))).map .agg
      | _ => none
    | none => none
  | .slice t x lo hi none => match ti P t with
    | some i => match i.d, ρ x with
      | .str, .str s => match optIdx s.length s.length (hi.map ρ) with
        | some h => match optIdx h 0 (lo.map ρ) with
          | some l => some (.str ((s.take h).drop l))
          | none => none
        | none => none
      | .slice _ esz _, .sl b off len ver ez lim => match optIdx len len (hi.map ρ) with
        | some h => match optIdx h 0 (lo.map ρ) with
          | some l => if (lim = true ∧ h < len) ∨ ez ≠ esz then none else some (.sl b (off + l * esz) (h - l) ver esz lim)
          | none => none
        | none => none
      | .slice _ _ _, .nils => match optIdx 0 0 (hi.map ρ) with
        | some h => match optIdx h 0 (lo.map ρ) with
          | some _ => some .nils
          | none => none
        | none => none
      | _, _ => none
    | none => none
  | .slice t x lo (some hi) (some mx) => match ti P t with
    | some i => match i.d, ρ x with
      | .slice _ esz _, .sl b off len ver ez _ => match idx len (ρ mx) with
        | some m => match idx m (ρ hi) with
          | some h => match optIdx h 0 (lo.map ρ) with
            | some l => if m = h ∧ ez = esz then some (.sl b (off + l * esz) (h - l) ver esz true) else none
            | none => none
          | none => none
        | none => none
      | _, _ => none
    | none => none
  | .fieldAddr s x f => match ti P s with
    | some i => match i.d, ρ x with
      | .struct fs, .ptr b off ver z => match fs[f]? with
        | some q => some (.ptr b (off + q.1) ver z)
        | none => none
      | _, _ => none
    | none => none
  | .field s x f => match ti P s with
    | some i => match i.d, ρ x with
      | .struct fs, .agg l => match fs[f]? with
        | some q => partOf l q.1 q.2.1 q.2.2
        | none => none
      | _, _ => none
    | none => none
  | .indexAddr t x y => match ti P t with
    | some i => match i.d, ρ x with
      | .slice _ esz _, .sl b off len ver ez _ => match idxLt len (ρ y) with
        | some j => if ez = esz then some (.ptr b (off + j * esz) ver (off + j * esz + esz)) else none
        | none => none
      | .arr n esz _, .ptr b off ver z => match idxLt n (ρ y) with
        | some j => if off + n * esz ≤ z then some (.ptr b (off + j * esz) ver (off + j * esz + esz)) else none
        | none => none
      | _, _ => none
    | none => none
  | .index t x y => match ti P t with
    | some i => match i.d, ρ x with
      | .str, .str s => match idxLt s.length (ρ y) with
        | some j => some (.int .u8 (s.getD j 0).toNat)
        | none => none
      | .arr n esz g, .agg l => match idxLt n (ρ y) with
        | some j => partOf l (j * esz) esz g
        | none => none
      | _, _ => none
    | none => none
  | .extract t i => match ρ t with
    | .tup l => l[i]?
    | _ => none
  | .makeFunc f a c => some (.fn f (a.toList.map ρ) (c.toList.map ρ))
  | .makeInterface t x => match P.underlying t with
    | some (.interface _) => none
    | some _ => some (.iface t (ρ x))
    | none => none
  | .call c => callPure P c ρ
  | _ => none
where
  partOf (l : List V) (o n : Nat) (g : Bool) : Option V :=
    if o + n ≤ l.length then
      cond g (some (.agg ((l.drop o).take n))) l[o]?
    else none
  fillF (fs : List (Nat × Nat × Bool)) (cells : List V) : List (Nat × V) → Option (List V)
    | [] => some cells
    | (i, v) :: r => match fs[i]? with
      | some (o, n, _) => if v.cells.length = n ∧ o + n ≤ cells.length then fillF fs (splice cells o v.cells) r else none
      | none => none
  fillA (n esz : Nat) (cells : List V) : List (Nat × V) → Option (List V)
    | [] => some cells
    | (i, v) :: r => if v.cells.length = esz ∧ i * esz + esz ≤ cells.length then fillA n esz (splice cells (i * esz) v.cells) r else none

end Go.Hl
end
section
/-! Hl: operations on memory, regions, code, calls. -/
namespace Go.Hl

def bytesOf : List V → Option (List UInt8)
  | [] => some []
  | .int .u8 n :: l => (bytesOf l).map fun r => UInt8.ofNat n.toNat :: r
  | _ => none
def byteCells (l : List UInt8) : List V := l.map fun b => .int .u8 b.toNat
def zeros (z : List V) : Nat → List V
  | 0 => []
  | n + 1 => z ++ zeros z n

/-- A variable that is read. -/
def readVar (P : Program) (t : TypeId) (a : V) (h : H) : Option V :=
  match ti P t with
  | some i => match a with
    | .ptr b off ver z => match h.read b off ver i.sz with
      | some l => if off + i.sz ≤ z then cond i.agg (some (.agg l)) l.head? else none
      | none => none
    | _ => none
  | none => none
/-- What an operation reads. -/
def readOp (P : Program) (op : Op) (ρ : Operand → V) (h : H) : Option V :=
  match op with
  | .load t a => readVar P t (ρ a) h
  | .convert s t x => match P.underlying s, P.underlying t with
    | some (.slice e), some .string => match P.underlying e, ρ x with
      | some (.int .u8), .nils => some (.str [])
      | some (.int .u8), .sl b off len ver ez _ => match h.read b off ver len with
        | some l => if ez = 1 then (bytesOf l).map .str else none
        | none => none
      | _, _ => none
    | _, _ => none
  | _ => none

/-- The cells of what is appended, and how many elements they are. -/
def sourceOf (h : H) (esz : Nat) : V → Option (Nat × List V)
  | .nils => some (0, [])
  | .sl b off len ver ez _ => if ez = esz then (h.read b off ver (len * esz)).map fun l => (len, l) else none
  | .str s => if esz = 1 then some (s.length, byteCells s) else none
  | _ => none

def appendTo (h : H) (esz : Nat) (s : V) (m : Nat) (ys : List V) : Option (V × H) :=
  match s with
  | .nils => if ys.all V.cellOk then some (.sl h.size 0 m 0 esz false, h.new ys) else none
  | .sl b off len ver ez true => match h.read b off ver (len * esz) with
    | some old => if (old ++ ys).all V.cellOk ∧ ez = esz then some (.sl h.size 0 (len + m) 0 esz false, h.new (old ++ ys)) else none
    | none => none
  | .sl b off len ver ez false => match h.blks[b]? with
    | some k =>
      if ez = esz then
        if off + len * esz = k.cells.length then (h.grow b ver ys).map fun h' => (.sl b off (len + m) (ver + 1) esz false, h')
        else if off + (len + m) * esz ≤ k.cells.length then (h.write b (off + len * esz) ver ys).map fun h' => (.sl b off (len + m) ver esz false, h')
        else none
      else none
    | none => none
  | _ => none

def lenV : V → Nat
  | .sl _ _ n _ _ _ => n
  | _ => 0

/-- What an operation makes, or writes. -/
def actOp (P : Program) (op : Op) (ρ : Operand → V) (h : H) : Option (V × H) :=
  match op with
  | .alloc t => match ti P t with
    | some i => if i.zero.all V.cellOk then some (.ptr h.size 0 0 i.zero.length, h.new i.zero) else none
    | none => none
  | .box _ x => if (ρ x).cells.all V.cellOk then some (.ptr h.size 0 0 (ρ x).cells.length, h.new (ρ x).cells) else none
  | .store t a x => match ti P t with
    | some i => match ρ a with
      | .ptr b off ver z => if (ρ x).cells.length = i.sz ∧ off + i.sz ≤ z then (h.write b off ver (ρ x).cells).map fun h' => (.undef, h') else none
      | _ => none
    | none => none
  | .buildSlice t len parts => if parts.toList.any (fun p => (ρ p.2).isU) then none else match ti P t with
    | some i => match i.d with
      | .slice e esz _ => match ti P e with
        | some j =>
          if len * esz ≤ 16777216 ∧ j.zero.length = esz ∧ 0 < esz then
            match pureOp.fillA len esz (zeros j.zero len) (parts.toList.map fun p => (p.1, ρ p.2)) with
            | some cells => if cells.all V.cellOk then some (.sl h.size 0 len 0 esz false, h.new cells) else none
            | none => none
          else none
        | none => none
      | _ => none
    | none => none
  | .makeSlice t l c => match ti P t with
    | some i => match i.d with
      | .slice e esz eb => match ti P e with
        | some j => match ρ l, ρ c with
          | .int _ n, .int _ m =>
            if 0 ≤ n ∧ n ≤ m ∧ m ≤ 70368744177664 ∧ m * eb ≤ 70368744177664 ∧ j.zero.length = esz ∧ 0 < esz ∧ j.zero.all V.cellOk then
              some (.sl h.size 0 n.toNat 0 esz false, h.new (zeros j.zero n.toNat))
            else none
          | _, _ => none
        | none => none
      | _ => none
    | none => none
  | .convert s t x => match P.underlying s, ti P t with
    | some .string, some i => match i.d, ρ x with
      | .slice e 1 1, .str l => match P.underlying e with
        | some (.int .u8) => some (.sl h.size 0 l.length 0 1 false, h.new (byteCells l))
        | _ => none
      | _, _ => none
    | _, _ => none
  | .call { callee := .builtin .append, args, argTypes } => match args.toList, argTypes.toList with
    | [s, x], [t, u] => match ti P t with
      | some i => match i.d, P.underlying u with
        | .slice e esz eb, some d => if isIntD d then none else match ti P e, sourceOf h esz (ρ x) with
          | some j, some (m, ys) =>
            if j.zero.length ≠ esz then none
            else if m = 0 then (match ρ s with
              | .nils => some (.nils, h)
              | .sl b off len ver ez lim => some (.sl b off len ver ez lim, h)
              | _ => none)
            else if 0 < esz ∧ (lenV (ρ s) + m) * eb ≤ 70368744177664 ∧ lenV (ρ s) + m ≤ 70368744177664 then appendTo h esz (ρ s) m ys else none
          | _, _ => none
        | _, _ => none
      | none => none
    | _, _ => none
  | _ => none

inductive Kind where
  | pure | read | act | call | no
  deriving DecidableEq, Inhabited
def kindOf (P : Program) : Op → Kind
  | .move _ | .assign _ | .pick .. | .nilCheck _ | .binOp .. | .unOp .. | .build .. | .slice .. | .fieldAddr .. | .field .. | .indexAddr .. | .index .. | .extract .. | .makeFunc .. | .makeInterface .. => .pure
  | .load .. => .read
  | .convert s t _ => match P.underlying s, P.underlying t with
    | some (.slice _), some .string => .read
    | some .string, some (.slice _) => .act
    | _, _ => .pure
  | .alloc _ | .box .. | .store .. | .buildSlice .. | .makeSlice .. => .act
  | .call { callee := .builtin b, .. } => match b with
    | .len | .min | .max => .pure
    | .append => .act
    | _ => .no
  | .call { callee := .value _, .. } => .call
  | _ => .no

abbrev CallT := FuncId → List V → H → Option (V × H)

def callOp (call : CallT) (op : Op) (ρ : Operand → V) (h : H) : Option (V × H) :=
  match op with
  | .call { callee := .value f, args, .. } => match ρ f with
    | .fn (.func g) first caps => call g (first ++ args.toList.map ρ ++ caps) h
    | _ => none
  | _ => none

def step (call : CallT) (P : Program) (o : Oper) (ρ : Operand → V) (h : H) : Option (V × H) :=
  match kindOf P o.op with
  | .pure => (pureOp P o ρ).map fun v => (v, h)
  | .read => (readOp P o.op ρ h).map fun v => (v, h)
  | .act => actOp P o.op ρ h
  | .call => callOp call o.op ρ h
  | .no => none

abbrev Env := List V
def ev (e : Env) : Operand → V
  | .tmp t => e.getD t .undef
  | .const v => ofVal v
  | .func f => .fn (.func f) [] []
  | .global _ => .undef
def put (e : Env) (d : Option Tmp) (v : V) : Env :=
  match d with
  | some t => e.set t v
  | none => e
def forget : List Oper → Env → Env
  | [], e => e
  | o :: l, e => forget l (put e o.dst .undef)

/-- How many operations stand ahead of the one that picks by c. -/
def ahead (c : Tmp) : List Oper → Nat
  | [] => 0
  | o :: l => match o.op with
    | .pick (.tmp d) _ _ => if d = c then 0 else ahead c l + 1
    | _ => ahead c l + 1

def dstOf (ops : List Oper) (q : Nat) : Option Tmp := (ops[q]?).bind (·.dst)

/-- Operations in the order of the text; those under a guard together, up to the one that picks. -/
def runOps (call : CallT) (P : Program) (ops : List Oper) : Nat → Option (Nat × Bool) → List Oper → Env → H → Option (Env × H)
  | _, _, [], e, h => some (e, h)
  | 0, _, _ :: _, _, _ => none
  | n + 1, ctx, o :: rest, e, h =>
    if o.guard = ctx then (step call P o (ev e) h).bind fun r => runOps call P ops n ctx rest (put e o.dst r.1) r.2
    else match o.guard with
      | none => none
      | some (q, w) => match dstOf ops q with
        | none => none
        | some c => match e.getD c .undef with
          | .bool b =>
            match (o :: rest).drop (ahead c (o :: rest)) with
            | { dst, op := .pick _ x y, .. } :: rest' =>
              (cond (b == w) ((runOps call P ops n (some (q, w)) ((o :: rest).take (ahead c (o :: rest))) e h).map fun r => (ev r.1 (cond w x y), r.2)) (some (ev (forget ((o :: rest).take (ahead c (o :: rest))) e) (cond w y x), h))).bind
                fun r => runOps call P ops n ctx rest' (put (forget ((o :: rest).take (ahead c (o :: rest))) e) dst r.1) r.2
            | _ => none
          | _ => none

/-- The operations under a guard (its operation number q, its temporary c), from number i on: they touch c no more, and hang on it, or on each other. -/
def grpOk (q : Nat) (w : Bool) (c : Tmp) (i : Nat) : Nat → List Oper → Bool
  | _, [] => true
  | j, o :: l => (o.dst != some c) && (match o.guard with
    | some (q', w') => (q' == q && w' == w) || (decide (i ≤ q') && decide (q' < j))
    | none => false) && grpOk q w c i (j + 1) l
/-- Guards lie in one another as 'runOps' goes through them. -/
def grpsOk (ops : List Oper) : Nat → Option (Nat × Bool) → Nat → List Oper → Bool
  | _, _, _, [] => true
  | 0, _, _, _ :: _ => false
  | n + 1, ctx, i, o :: rest =>
    if o.guard = ctx then grpsOk ops n ctx (i + 1) rest
    else match o.guard with
      | none => false
      | some (q, w) => match dstOf ops q with
        | none => false
        | some c => match (o :: rest).drop (ahead c (o :: rest)) with
          | pk :: rest' => decide (pk.guard = ctx) && grpOk q w c i i ((o :: rest).take (ahead c (o :: rest))) && grpsOk ops n (some (q, w)) i ((o :: rest).take (ahead c (o :: rest))) && grpsOk ops n ctx (i + ahead c (o :: rest) + 1) rest'
          | [] => false

/-- What each operation waits for, as bits. -/
def waits : List Oper → List Nat → List Nat
  | [], acc => acc
  | o :: l, acc => waits l (acc ++ [o.after.toList.foldl (fun s e => if Region.binds .any e then s ||| 2 ^ e.on ||| acc.getD e.on 0 else s) 0])

/-- One operation of a region whose order is open: what stood ahead of it in the text's order, its value, whether its guard said no. -/
structure Rec where
  e : Env
  h : H
  v : V
  s : Bool
  deriving Inhabited

def skipOf (ops : List Oper) (o : Oper) (sk : List Bool) (e : Env) : Option Bool :=
  match o.guard with
  | none => some false
  | some (q, w) => if sk.getD q false then some true else match dstOf ops q with
    | some c => match e.getD c .undef with
      | .bool b => some (b != w)
      | _ => none
    | none => none

def lexRun (call : CallT) (P : Program) (ops : List Oper) : List Oper → List Bool → Env → H → Option (List Rec × Env × H)
  | [], _, e, h => some ([], e, h)
  | o :: l, sk, e, h =>
    (skipOf ops o sk e).bind fun s => (cond s (some (.undef, h)) (step call P o (ev e) h)).bind fun r =>
      (lexRun call P ops l (sk ++ [s]) (put e o.dst r.1) r.2).bind fun x => some (⟨e, h, r.1, s⟩ :: x.1, x.2)

def isAct (P : Program) (o : Oper) : Bool := match kindOf P o.op with
  | .act => true
  | .call => true
  | _ => false
def isRead (P : Program) (o : Oper) : Bool := match kindOf P o.op with
  | .read => true
  | _ => false
def bit (B : List Nat) (i k : Nat) : Bool := (B.getD i 0).testBit k
/-- What reads, and what acts, in either order: (reads, acts). -/
def floats (P : Program) (ops : List Oper) (B : List Nat) : List (Nat × Nat) :=
  (List.range ops.length).flatMap fun j => (List.range ops.length).filterMap fun k =>
    match ops[j]?, ops[k]? with
    | some oj, some ok => if isRead P oj && isAct P ok && (if j < k then !bit B k j else !bit B j k) then some (j, k) else none
    | _, _ => none
def hAt (rs : List Rec) (hN : H) (m : Nat) : H := match rs[m]? with
  | some r => r.h
  | none => hN
def sameAs (v : V) : Option V → Bool
  | some u => V.same u v
  | none => false
/-- It reads the same, wherever it comes. -/
def pairOk (P : Program) (ops : List Oper) (rs : List Rec) (hN : H) (j k : Nat) : Bool :=
  match ops[j]?, rs[j]?, rs[k]? with
  | some oj, some rj, some rk => rj.s || rk.s || sameAs rj.v (readOp P oj.op (ev rj.e) (if j < k then hAt rs hN (k + 1) else rk.h))
  | _, _, _ => false
/-- Operations whose order is open. -/
def runAny (call : CallT) (P : Program) (ops : List Oper) (F : List (Nat × Nat)) (e : Env) (h : H) : Option (Env × H) :=
  (lexRun call P ops ops [] e h).bind fun x => if F.all (fun p => pairOk P ops x.1 x.2.2 p.1 p.2) then some x.2 else none

def looks (ops : List Oper) (o : Oper) : List Tmp :=
  (o.op.operands.toList.filterMap fun | .tmp t => some t | _ => none) ++ (match o.guard with
    | some (q, _) => (dstOf ops q).toList
    | none => [])
/-- What must hold of such operations at all. -/
def anyOk (P : Program) (ops : List Oper) (B : List Nat) : Bool :=
  (List.range ops.length).all fun i => match ops[i]? with
    | none => false
    | some o =>
      o.after.toList.all (fun e => !Region.binds .any e || decide (e.on < i)) &&
      (match o.guard with
        | some (q, _) => decide (q < i) && bit B i q && (dstOf ops q).isSome
        | none => true) &&
      (List.range ops.length).all fun j => match ops[j]? with
        | none => false
        | some p =>
          (if i = j then true else (match o.dst with
            | some d => p.dst != some d
            | none => true)) &&
          (match p.dst with
            | some d => if (looks ops o).contains d then (if j < i then bit B i j else if i < j then bit B j i else true) else true
            | none => true) &&
          (if isAct P o && isAct P p && decide (j < i) then bit B i j else true)

inductive Ex where
  | normal | exit (id : Nat) | ret
  deriving Inhabited

abbrev Out := Option (Ex × Env × H)

def iter (f : Env → H → Out) : Nat → Env → H → Out
  | 0, _, _ => none
  | n + 1, e, h => match f e h with
    | some (.normal, e', h') => iter f n e' h'
    | r => r

def exec (call : CallT) (P : Program) (k : Nat) : Code → Env → H → Out
  | .skip, e, h => some (.normal, e, h)
  | .region _ ops false, e, h => (runOps call P ops.toList ops.size none ops.toList e h).map fun r => (.normal, r.1, r.2)
  | .region _ ops true, e, h => (runAny call P ops.toList (floats P ops.toList (waits ops.toList [])) e h).map fun r => (.normal, r.1, r.2)
  | .seq a b, e, h => match exec call P k a e h with
    | some (.normal, e', h') => exec call P k b e' h'
    | r => r
  | .cond c a b, e, h => match ev e c with
    | .bool t => cond t (exec call P k a e h) (exec call P k b e h)
    | _ => none
  | .block id b, e, h => match exec call P k b e h with
    | some (.exit j, e', h') => if j = id then some (.normal, e', h') else some (.exit j, e', h')
    | r => r
  | .loop b, e, h => iter (exec call P k b) k e h
  | .exit id, e, h => some (.exit id, e, h)
  | .ret, e, h => some (.ret, e, h)
  | _, _, _ => none

/-- What a call hands back. -/
def resultOf (P : Program) (e : Env) (h : H) : ResultVar → Option V
  | .tmp t => some (e.getD t .undef)
  | .cell a t => readVar P t (e.getD a .undef) h
def resultsOf (P : Program) (e : Env) (h : H) : List ResultVar → Option (List V)
  | [] => some []
  | r :: l => match resultOf P e h r with
    | some v => (resultsOf P e h l).map fun vs => v :: vs
    | none => none
def tupOf : List V → V
  | [v] => v
  | l => .tup l

/-- Blocks that the call made, and that nothing names any more, are given up. -/
def leave (h h' : H) (v : V) : H :=
  if V.under h.size v && h'.esc.all (fun x => decide (h.size ≤ x.1) || decide (x.2 < h.size)) then
    { blks := h'.blks.take h.size, esc := h.esc ++ h'.esc.filter fun x => decide (x.1 < h.size) }
  else { blks := h'.blks, esc := h.esc ++ h'.esc }

def finish (P : Program) (fn : Func) (h : H) : Out → Option (V × H)
  | some (.exit _, _, _) => none
  | some (_, e, h') => (resultsOf P e h' fn.results.toList).map fun vs => (tupOf vs, leave h h' (tupOf vs))
  | none => none

/-- Every region of code is of a form that is known. -/
def codeOk (P : Program) : Code → Bool
  | .region _ ops false => grpsOk ops.toList ops.size none 0 ops.toList
  | .region _ ops true => anyOk P ops.toList (waits ops.toList [])
  | .seq a b => codeOk P a && codeOk P b
  | .cond _ a b => codeOk P a && codeOk P b
  | .block _ b => codeOk P b
  | .loop b => codeOk P b
  | .skip => true
  | .exit _ => true
  | .ret => true
  | _ => false
def fnOk (P : Program) (fn : Func) : Bool := (fn.name != "runtime.NumGoroutine") && match fn.body with
  | some c => codeOk P c
  | none => false

def enter (fn : Func) (args : List V) : Env := args ++ List.replicate (fn.ntmps - args.length) .undef

/-- A call. What C says is taken of functions that are not of a known form. -/
def callF (P : Program) (C : CallT) : Nat → CallT
  | 0, _, _, _ => none
  | k + 1, f, args, h => match P.funcs[f]? with
    | some fn => if fnOk P fn then match fn.body with
        | some c => finish P fn h (exec (callF P C k) P k c (enter fn args) { blks := h.blks, esc := [] })
        | none => none
      else C f args h
    | none => none

end Go.Hl
end
section
/-! Hl: what its memory says of the true one. -/
namespace Go.Hl

/-- Where a growth of a block lies: the true block, where in it cell number lo stands; how many cells this growth has; up to which cell the capacity of its slices goes. -/
structure Loc where
  blk : Nat
  r : Nat
  lo : Nat
  n : Nat
  cend : Nat
  deriving Inhabited
abbrev Map := Nat → Nat → Loc

def okRef (h : H) (b ver : Nat) : Prop := ∃ k, h.blks[b]? = some k ∧ ver ≤ k.gen

def SlOk (ι : Map) (h : H) (b off len ver esz : Nat) (lim : Bool) (a : Addr) (cap : Nat) : Prop :=
  ∃ k, h.blks[b]? = some k ∧ ver ≤ k.gen ∧ 0 < esz ∧ len ≤ cap ∧ (lim = true → cap = len) ∧ (ι b ver).lo ≤ off ∧ off + len * esz ≤ (ι b ver).n ∧
    (cap ≠ 0 → a = ⟨(ι b ver).blk, (ι b ver).r + (off - (ι b ver).lo), none⟩) ∧ (lim = false → off + cap * esz = (ι b ver).cend)

mutual
def RelV (ι : Map) (h : H) : V → Value → Prop
  | .bool b, v => v = .bool b
  | .int k n, v => v = .int k n
  | .str s, v => v = .string ⟨s.toArray⟩
  | .nilp, v => v = .pointer none
  | .ptr b off ver z, v => okRef h b ver ∧ (ι b ver).lo ≤ off ∧ z ≤ (ι b ver).n ∧ v = .pointer (some ⟨(ι b ver).blk, (ι b ver).r + (off - (ι b ver).lo), none⟩)
  | .nils, v => v = .slice none 0 0
  | .sl b off len ver esz lim, v => ∃ a cap, v = .slice (some a) len cap ∧ SlOk ι h b off len ver esz lim a cap
  | .fn f x y, v => ∃ x' y', v = .func f x' y' ∧ RelVs ι h x x'.toList ∧ RelVs ι h y y'.toList
  | .nilf, v => v = .nilFunc
  | .agg l, v => ∃ c, v = .agg c ∧ RelVs ι h l c.toList
  | .tup l, v => l = [] ∨ ∃ c, v = .tuple c ∧ RelVs ι h l c.toList
  | .iface t x, v => ∃ y, v = .iface t y ∧ RelV ι h x y
  | .nili, v => v = .nilIface
def RelVs (ι : Map) (h : H) : List V → List Value → Prop
  | [], [] => True
  | u :: l, v :: m => RelV ι h u v ∧ RelVs ι h l m
  | _, _ => False
end

theorem RelV.undef {ι : Map} {h : H} (v : Value) : RelV ι h .undef v := by simp [RelV]

theorem RelVs.length {ι : Map} {h : H} : ∀ {l : List V} {m : List Value}, RelVs ι h l m → l.length = m.length
  | [], [], _ => rfl
  | _ :: _, _ :: _, hr => by
    simp only [RelVs] at hr
    simp [RelVs.length hr.2]
  | [], _ :: _, hr => by simp [RelVs] at hr
  | _ :: _, [], hr => by simp [RelVs] at hr

theorem RelVs.get {ι : Map} {h : H} : ∀ {l : List V} {m : List Value}, RelVs ι h l m → ∀ {i : Nat} {u : V}, l[i]? = some u → ∃ v, m[i]? = some v ∧ RelV ι h u v
  | [], [], _, i, u, hu => by simp at hu
  | _ :: _, _ :: _, hr, 0, u, hu => by
    simp only [RelVs] at hr
    simp at hu
    exact ⟨_, by simp, hu ▸ hr.1⟩
  | _ :: _, _ :: _, hr, i + 1, u, hu => by
    simp only [RelVs] at hr
    simp at hu
    obtain ⟨v, hv, h'⟩ := RelVs.get hr.2 hu
    exact ⟨v, by simpa using hv, h'⟩
  | [], _ :: _, hr, _, _, _ => by simp [RelVs] at hr
  | _ :: _, [], hr, _, _, _ => by simp [RelVs] at hr

theorem RelVs.of_get {ι : Map} {h : H} : ∀ {l : List V} {m : List Value}, l.length = m.length → (∀ (i : Nat) (u : V) (v : Value), l[i]? = some u → m[i]? = some v → RelV ι h u v) → RelVs ι h l m
  | [], [], _, _ => by simp [RelVs]
  | u :: l, v :: m, hl, hg => by
    simp only [RelVs]
    exact ⟨hg 0 u v (by simp) (by simp), RelVs.of_get (by simpa using hl) fun i u v hu hv => hg (i + 1) u v (by simpa using hu) (by simpa using hv)⟩
  | [], _ :: _, hl, _ => by simp at hl
  | _ :: _, [], hl, _ => by simp at hl

theorem RelVs.append {ι : Map} {h : H} : ∀ {l l' : List V} {m m' : List Value}, RelVs ι h l m → RelVs ι h l' m' → RelVs ι h (l ++ l') (m ++ m')
  | [], _, [], _, _, h' => h'
  | _ :: _, _, _ :: _, _, hr, h' => by
    simp only [RelVs, List.cons_append] at hr ⊢
    exact ⟨hr.1, RelVs.append hr.2 h'⟩
  | [], _, _ :: _, _, hr, _ => by simp [RelVs] at hr
  | _ :: _, _, [], _, hr, _ => by simp [RelVs] at hr

theorem RelVs.take {ι : Map} {h : H} {l : List V} {m : List Value} (hr : RelVs ι h l m) (n : Nat) : RelVs ι h (l.take n) (m.take n) := by
  refine RelVs.of_get (by simp [hr.length]) fun i u v hu hv => ?_
  rw [List.getElem?_take] at hu hv
  split at hu
  · rename_i hi
    rw [if_pos hi] at hv
    obtain ⟨v', hv', hr'⟩ := hr.get hu
    rw [hv] at hv'
    exact Option.some.inj hv' ▸ hr'
  · cases hu

theorem RelVs.drop {ι : Map} {h : H} {l : List V} {m : List Value} (hr : RelVs ι h l m) (n : Nat) : RelVs ι h (l.drop n) (m.drop n) := by
  refine RelVs.of_get (by simp [hr.length]) fun i u v hu hv => ?_
  rw [List.getElem?_drop] at hu hv
  obtain ⟨v', hv', hr'⟩ := hr.get hu
  rw [hv] at hv'
  exact Option.some.inj hv' ▸ hr'

/-- A block of the one memory is a block of the other one, grown perhaps; its elder growths lie where they lay. -/
def AgreeAt (ι : Map) (h : H) (ι' : Map) (h' : H) (b : Nat) : Prop :=
  ∀ k, h.blks[b]? = some k → (∃ k', h'.blks[b]? = some k' ∧ k.gen ≤ k'.gen ∧ k'.ro = k.ro) ∧ ∀ g, g ≤ k.gen → ι' b g = ι b g

def Agree (ι : Map) (h : H) (ι' : Map) (h' : H) : Prop := ∀ b, AgreeAt ι h ι' h' b

theorem Agree.refl (ι : Map) (h : H) : Agree ι h ι h := fun _ k hk => ⟨⟨k, hk, Nat.le_refl _, rfl⟩, fun _ _ => rfl⟩
theorem Agree.trans {ι ι' ι'' : Map} {h h' h'' : H} (a : Agree ι h ι' h') (b : Agree ι' h' ι'' h'') : Agree ι h ι'' h'' := fun i k hk => by
  obtain ⟨⟨k', hk', hg, hr⟩, hi⟩ := a i k hk
  obtain ⟨⟨k'', hk'', hg', hr'⟩, hi'⟩ := b i k' hk'
  exact ⟨⟨k'', hk'', Nat.le_trans hg hg', hr'.trans hr⟩, fun g hgk => (hi' g (Nat.le_trans hgk hg)).trans (hi g hgk)⟩

theorem okRef.agree {ι ι' : Map} {h h' : H} {b ver : Nat} (ha : AgreeAt ι h ι' h' b) (ho : okRef h b ver) : okRef h' b ver ∧ ι' b ver = ι b ver := by
  obtain ⟨k, hk, hv⟩ := ho
  obtain ⟨⟨k', hk', hg, _⟩, hi⟩ := ha k hk
  exact ⟨⟨k', hk', Nat.le_trans hv hg⟩, hi _ hv⟩

mutual
theorem RelV.agree {ι ι' : Map} {h h' : H} {n : Nat} (ha : ∀ b, b < n → AgreeAt ι h ι' h' b) : ∀ {u : V} {v : Value}, V.under n u = true → RelV ι h u v → RelV ι' h' u v
  | .bool _, _, _, hr | .int _ _, _, _, hr | .str _, _, _, hr | .nilp, _, _, hr | .nils, _, _, hr | .nilf, _, _, hr | .nili, _, _, hr => by
    simpa [RelV] using hr
  | .ptr b off ver z, v, hu, hr => by
    simp only [RelV, V.under, decide_eq_true_eq] at *
    obtain ⟨ho, h1, h2⟩ := hr
    obtain ⟨ho', he⟩ := okRef.agree (ha b hu) ho
    rw [he]
    exact ⟨ho', h1, h2⟩
  | .sl b off len ver ez lim, v, hu, hr => by
    simp only [RelV, V.under, decide_eq_true_eq] at *
    obtain ⟨a, cap, hv, k, hk, hg, hr⟩ := hr
    obtain ⟨⟨k', hk', hg', _⟩, hi⟩ := ha b hu k hk
    refine ⟨a, cap, hv, k', hk', Nat.le_trans hg hg', ?_⟩
    rw [hi ver hg]
    exact hr
  | .fn f x y, v, hu, hr => by
    simp only [RelV, V.under, Bool.and_eq_true] at *
    obtain ⟨x', y', hv, h1, h2⟩ := hr
    exact ⟨x', y', hv, RelVs.agree ha hu.1 h1, RelVs.agree ha hu.2 h2⟩
  | .agg l, v, hu, hr => by
    simp only [RelV, V.under] at *
    obtain ⟨c, hv, h1⟩ := hr
    exact ⟨c, hv, RelVs.agree ha hu h1⟩
  | .tup l, v, hu, hr => by
    simp only [RelV, V.under] at *
    rcases hr with hr | ⟨c, hv, h1⟩
    · exact .inl hr
    · exact .inr ⟨c, hv, RelVs.agree ha hu h1⟩
  | .iface t x, v, hu, hr => by
    simp only [RelV, V.under] at *
    obtain ⟨y, hv, h1⟩ := hr
    exact ⟨y, hv, RelV.agree ha hu h1⟩
theorem RelVs.agree {ι ι' : Map} {h h' : H} {n : Nat} (ha : ∀ b, b < n → AgreeAt ι h ι' h' b) : ∀ {l : List V} {m : List Value}, V.unders n l = true → RelVs ι h l m → RelVs ι' h' l m
  | [], [], _, _ => by simp [RelVs]
  | u :: l, v :: m, hu, hr => by
    simp only [RelVs, V.unders, Bool.and_eq_true] at *
    exact ⟨RelV.agree ha hu.1 hr.1, RelVs.agree ha hu.2 hr.2⟩
  | [], _ :: _, _, hr => by simp [RelVs] at hr
  | _ :: _, [], _, hr => by simp [RelVs] at hr
end

theorem okRef.lt {h : H} {b ver : Nat} (ho : okRef h b ver) : b < h.size := by
  obtain ⟨k, hk, _⟩ := ho
  exact (List.getElem?_eq_some_iff.1 hk).1

mutual
theorem RelV.under {ι : Map} {h : H} : ∀ {u : V} {v : Value}, RelV ι h u v → V.under h.size u = true
  | .bool _, _, _ | .int _ _, _, _ | .str _, _, _ | .nilp, _, _ | .nils, _, _ | .nilf, _, _ | .nili, _, _ => by simp [V.under]
  | .ptr b off ver z, v, hr => by
    simp only [RelV, V.under, decide_eq_true_eq] at *
    exact hr.1.lt
  | .sl b off len ver ez lim, v, hr => by
    simp only [RelV, V.under, decide_eq_true_eq] at *
    obtain ⟨_, _, _, k, hk, hg, _⟩ := hr
    exact okRef.lt ⟨k, hk, hg⟩
  | .fn f x y, v, hr => by
    simp only [RelV, V.under, Bool.and_eq_true] at *
    obtain ⟨x', y', hv, h1, h2⟩ := hr
    exact ⟨RelVs.unders h1, RelVs.unders h2⟩
  | .agg l, v, hr => by
    simp only [RelV, V.under] at *
    obtain ⟨c, hv, h1⟩ := hr
    exact RelVs.unders h1
  | .tup l, v, hr => by
    simp only [RelV, V.under] at *
    rcases hr with rfl | ⟨c, hv, h1⟩
    · simp [V.unders]
    · exact RelVs.unders h1
  | .iface t x, v, hr => by
    simp only [RelV, V.under] at *
    obtain ⟨y, hv, h1⟩ := hr
    exact RelV.under h1
theorem RelVs.unders {ι : Map} {h : H} : ∀ {l : List V} {m : List Value}, RelVs ι h l m → V.unders h.size l = true
  | [], _, _ => by simp [V.unders]
  | u :: l, v :: m, hr => by
    simp only [RelVs, V.unders, Bool.and_eq_true] at *
    exact ⟨RelV.under hr.1, RelVs.unders hr.2⟩
  | _ :: _, [], hr => by simp [RelVs] at hr
end

theorem RelV.step {ι ι' : Map} {h h' : H} (ha : Agree ι h ι' h') {u : V} {v : Value} (hr : RelV ι h u v) : RelV ι' h' u v := RelV.agree (fun b _ => ha b) hr.under hr
theorem RelVs.step {ι ι' : Map} {h h' : H} (ha : Agree ι h ι' h') {l : List V} {m : List Value} (hr : RelVs ι h l m) : RelVs ι' h' l m := RelVs.agree (fun b _ => ha b) hr.unders hr

/-- Cells as they lie in the true memory. -/
def CellsAt (ι : Map) (h : H) (w : World) (ro : Bool) (l : Loc) (cells : List V) : Prop :=
  ∃ c e fz, w.heap[l.blk]? = some (.cells c e fz) ∧
    (ro = false → (∀ i, i < c.size → ¬ (fz.1 ≤ i ∧ i < fz.2)) ∧ l.r + (l.cend - l.lo) ≤ c.size) ∧
    ∀ j, l.lo ≤ j → j < l.n → ∃ u v, cells[j]? = some u ∧ c[l.r + (j - l.lo)]? = some v ∧ RelV ι h u v

structure RelB (ι : Map) (base : Nat) (h : H) (w : World) (b : Nat) (k : Blk) : Prop where
  top : (ι b k.gen).n = k.cells.length
  val : k.valid ≤ k.gen
  lt : ∀ g, g ≤ k.gen → (ι b g).blk < w.heap.size
  side : ∀ g, g ≤ k.gen → (k.ro = true → (ι b g).blk < base) ∧ (k.ro = false → base ≤ (ι b g).blk)
  chain : ∀ g g', g ≤ g' → g' ≤ k.gen → (ι b g).n ≤ (ι b g').n ∧ ((ι b g).blk = (ι b g').blk → (ι b g).r = (ι b g').r ∧ (ι b g).lo = (ι b g').lo)
  ends : ∀ g, g ≤ k.gen → (ι b g).lo ≤ (ι b g).n ∧ (k.ro = false → (ι b g).n ≤ (ι b g).cend)
  cells : ∀ g, k.valid ≤ g → g ≤ k.gen → CellsAt ι h w k.ro (ι b g) k.cells

structure Rel (ι : Map) (base : Nat) (h : H) (w : World) : Prop where
  blk : ∀ b k, h.blks[b]? = some k → RelB ι base h w b k
  disj : ∀ b b' k k', h.blks[b]? = some k → h.blks[b']? = some k' → b ≠ b' → k.ro = false → k'.ro = false →
    ∀ g g', g ≤ k.gen → g' ≤ k'.gen → (ι b g).blk ≠ (ι b' g').blk
  base : base ≤ w.heap.size
  wf : ∀ (b : Nat) (k : Blk), h.blks[b]? = some k → ∀ u ∈ k.cells, V.under h.size u = true

mutual
theorem under_mono {n m : Nat} (hn : n ≤ m) : ∀ {u : V}, V.under n u = true → V.under m u = true
  | .ptr c _ _ _, h | .sl c _ _ _ _ _, h => by
    simp only [V.under, decide_eq_true_eq] at h ⊢
    omega
  | .fn _ x y, h => by
    simp only [V.under, Bool.and_eq_true] at h ⊢
    exact ⟨unders_mono hn h.1, unders_mono hn h.2⟩
  | .agg l, h | .tup l, h => by
    simp only [V.under] at h ⊢
    exact unders_mono hn h
  | .iface _ x, h => by
    simp only [V.under] at h ⊢
    exact under_mono hn h
  | .bool _, _ | .int _ _, _ | .str _, _ | .nilp, _ | .nils, _ | .nilf, _ | .nili, _ => by simp [V.under]
theorem unders_mono {n m : Nat} (hn : n ≤ m) : ∀ {l : List V}, V.unders n l = true → V.unders m l = true
  | [], _ => by simp [V.unders]
  | u :: l, h => by
    simp only [V.unders, Bool.and_eq_true] at h ⊢
    exact ⟨under_mono hn h.1, unders_mono hn h.2⟩
end

theorem unders_mem {n : Nat} : ∀ {l : List V}, V.unders n l = true → ∀ u ∈ l, V.under n u = true
  | [], _, u, hu => by simp at hu
  | v :: l, h, u, hu => by
    simp only [V.unders, Bool.and_eq_true] at h
    rcases List.mem_cons.1 hu with rfl | hu
    · exact h.1
    · exact unders_mem h.2 u hu
theorem unders_append {n : Nat} : ∀ {l m : List V}, V.unders n (l ++ m) = true ↔ V.unders n l = true ∧ V.unders n m = true
  | [], m => by simp [V.unders]
  | v :: l, m => by simp only [List.cons_append, V.unders, Bool.and_eq_true, unders_append (l := l), and_assoc]
theorem unders_of_mem {n : Nat} : ∀ {l : List V}, (∀ u ∈ l, V.under n u = true) → V.unders n l = true
  | [], _ => by simp [V.unders]
  | v :: l, h => by
    simp only [V.unders, Bool.and_eq_true]
    exact ⟨h v (by simp), unders_of_mem fun u hu => h u (by simp [hu])⟩

end Go.Hl
end
section
/-! Hl: its memory and the true one: a read, a new block, a write, a growth. -/
namespace Go.Hl
open Go.RowKit

theorem Rel.heap {ι : Map} {base : Nat} {h : H} {w w' : World} (hr : Rel ι base h w) (he : w'.heap = w.heap) : Rel ι base h w' := by
  refine ⟨fun b k hk => ?_, hr.disj, he ▸ hr.base, hr.wf⟩
  obtain ⟨h1, h2, h3, h4, h5, h6, h7⟩ := hr.blk b k hk
  refine ⟨h1, h2, he ▸ h3, h4, h5, h6, fun g hg hg' => ?_⟩
  obtain ⟨c, e, fz, hc, r⟩ := h7 g hg hg'
  exact ⟨c, e, fz, he ▸ hc, r⟩

theorem Agree.esc {ι : Map} {h : H} (es : List (Nat × Nat)) : Agree ι h ι { h with esc := es } := fun _ k hk => ⟨⟨k, hk, Nat.le_refl _, rfl⟩, fun _ _ => rfl⟩
theorem Agree.esc' {ι : Map} {h : H} (es : List (Nat × Nat)) : Agree ι { h with esc := es } ι h := fun _ k hk => ⟨⟨k, hk, Nat.le_refl _, rfl⟩, fun _ _ => rfl⟩

/-- The memory's blocks alone count. -/
theorem Rel.blks {ι : Map} {base : Nat} {h h' : H} {w : World} (hr : Rel ι base h w) (he : h'.blks = h.blks) : Rel ι base h' w := by
  have ha : Agree ι h ι h' := fun b k hk => ⟨⟨k, he ▸ hk, Nat.le_refl _, rfl⟩, fun _ _ => rfl⟩
  refine ⟨fun b k hk => ?_, fun b b' k k' hk hk' => hr.disj b b' k k' (he ▸ hk) (he ▸ hk'), hr.base, fun b k hk u hu => ?_⟩
  rotate_left
  · have := hr.wf b k (he ▸ hk) u hu
    simpa [H.size, he] using this
  obtain ⟨h1, h2, h3, h4, h5, h6, h7⟩ := hr.blk b k (he ▸ hk)
  refine ⟨h1, h2, h3, h4, h5, h6, fun g hg hg' => ?_⟩
  obtain ⟨c, e, fz, hc, r, hj⟩ := h7 g hg hg'
  refine ⟨c, e, fz, hc, r, fun j h1 h2 => ?_⟩
  obtain ⟨u, v, a1, a2, a3⟩ := hj j h1 h2
  exact ⟨u, v, a1, a2, a3.step ha⟩

theorem cell_of {w : World} {b : Nat} {c : Array Value} {e : TypeId} {fz : Nat × Nat} (h : w.heap[b]? = some (.cells c e fz)) (i : Nat) : w.cell? ⟨b, i, none⟩ = c[i]? := by
  simp [World.cell?, h]

/-- A read. -/
theorem read_ok {ι : Map} {base : Nat} {h : H} {w : World} (hr : Rel ι base h w) {b off ver n : Nat} {l : List V} (hl : h.read b off ver n = some l)
    (ho : okRef h b ver) (h1 : (ι b ver).lo ≤ off) (h2 : off + n ≤ (ι b ver).n) :
    ∃ vs : List Value, RelVs ι h l vs ∧ vs.length = n ∧ ∀ i, i < n → w.cell? ⟨(ι b ver).blk, (ι b ver).r + (off - (ι b ver).lo) + i, none⟩ = vs[i]? := by
  obtain ⟨k, hk, hg⟩ := ho
  unfold H.read at hl
  rw [hk] at hl
  simp only at hl
  split at hl
  · rename_i hv
    injection hl with hl
    have hb := hr.blk b k hk
    obtain ⟨c, e, fz, hc, -, hj⟩ := hb.cells ver hv.1 hg
    have hn : (ι b ver).n ≤ k.cells.length := hb.top ▸ (hb.chain ver k.gen hg (Nat.le_refl _)).1
    have hall : ∀ i, i < n → ∃ u v, k.cells[off + i]? = some u ∧ c[(ι b ver).r + (off - (ι b ver).lo) + i]? = some v ∧ RelV ι h u v := fun i hi => by
      obtain ⟨u, v, a1, a2, a3⟩ := hj (off + i) (by omega) (by omega)
      exact ⟨u, v, a1, by rw [show (ι b ver).r + (off - (ι b ver).lo) + i = (ι b ver).r + (off + i - (ι b ver).lo) by omega]; exact a2, a3⟩
    have hlen : l.length = n := by rw [← hl]; simp; omega
    refine ⟨(List.range n).map fun i => (c[(ι b ver).r + (off - (ι b ver).lo) + i]?).getD default, ?_, by simp, fun i hi => ?_⟩
    · refine RelVs.of_get (by simp [hlen]) fun i u v hu hv => ?_
      have hi : i < n := by
        have := (List.getElem?_eq_some_iff.1 hu).1
        omega
      obtain ⟨u', v', a1, a2, a3⟩ := hall i hi
      rw [← hl, List.getElem?_take, if_pos hi, List.getElem?_drop, a1] at hu
      injection hu with hu
      simp [hi, a2] at hv
      rw [← hu, ← hv]
      exact a3
    · obtain ⟨u', v', a1, a2, a3⟩ := hall i hi
      rw [cell_of hc]
      simp [hi, a2]
  · cases hl

def Map.set (ι : Map) (b g : Nat) (l : Loc) : Map := fun b' g' => if b' = b ∧ g' = g then l else ι b' g'
theorem Map.set_self (ι : Map) (b g : Nat) (l : Loc) : ι.set b g l b g = l := by simp [Map.set]
theorem Map.set_ne (ι : Map) {b g b' g' : Nat} (l : Loc) (h : b' ≠ b ∨ g' ≠ g) : ι.set b g l b' g' = ι b' g' := by
  unfold Map.set
  rw [if_neg]
  rintro ⟨rfl, rfl⟩
  rcases h with h | h <;> exact h rfl

theorem H.new_get (h : H) (cells : List V) {b : Nat} {k : Blk} : (h.new cells).blks[b]? = some k ↔ h.blks[b]? = some k ∨ (b = h.size ∧ k = { cells, gen := 0, valid := 0, ro := false }) := by
  unfold H.new H.size
  simp only
  rcases Nat.lt_trichotomy b h.blks.length with hb | hb | hb
  · rw [List.getElem?_append_left hb]
    constructor
    · exact .inl
    · rintro (h1 | ⟨h1, _⟩)
      · exact h1
      · omega
  · subst hb
    simp only [List.getElem?_concat_length, Option.some.injEq]
    constructor
    · exact fun h1 => .inr ⟨by simp, h1.symm⟩
    · rintro (h1 | ⟨_, h1⟩)
      · simp at h1
      · exact h1.symm
  · rw [List.getElem?_eq_none (by simp; omega)]
    constructor
    · intro h1
      cases h1
    · rintro (h1 | ⟨h1, _⟩)
      · have := (List.getElem?_eq_some_iff.1 h1).1
        omega
      · omega

theorem H.lt_size {h : H} {b : Nat} {k : Blk} (hk : h.blks[b]? = some k) : b < h.size := (List.getElem?_eq_some_iff.1 hk).1

theorem agree_new (ι : Map) (h : H) (cells : List V) (l : Loc) : Agree ι h (ι.set h.size 0 l) (h.new cells) := fun _b k hk =>
  ⟨⟨k, (H.new_get h cells).2 (.inl hk), Nat.le_refl _, rfl⟩, fun _g _ => Map.set_ne ι l (.inl (Nat.ne_of_lt (H.lt_size hk)))⟩

/-- A new block. -/
theorem new_ok {ι : Map} {base : Nat} {h : H} {w w' : World} (hr : Rel ι base h w) {cells : List V} {C : Array Value} {e : TypeId} {fz : Nat × Nat} {cend : Nat}
    (hw : w'.heap = w.heap.push (.cells C e fz)) (hfz : ∀ i, i < C.size → ¬ (fz.1 ≤ i ∧ i < fz.2)) (hc : RelVs ι h cells (C.toList.take cells.length)) (hl : cells.length ≤ cend) (hcend : cend ≤ C.size) :
    Rel (ι.set h.size 0 ⟨w.heap.size, 0, 0, cells.length, cend⟩) base (h.new cells) w' ∧ Agree ι h (ι.set h.size 0 ⟨w.heap.size, 0, 0, cells.length, cend⟩) (h.new cells) := by
  have ha := agree_new ι h cells ⟨w.heap.size, 0, 0, cells.length, cend⟩
  generalize hL : (⟨w.heap.size, 0, 0, cells.length, cend⟩ : Loc) = L at *
  have hold : ∀ i, i < w.heap.size → w'.heap[i]? = w.heap[i]? := fun i hi => by rw [hw, Array.getElem?_push_lt hi]; simp [hi]
  have hLb : L.blk = w.heap.size := by rw [← hL]
  refine ⟨⟨fun b k hk => ?_, ?_, ?_, ?_⟩, ha⟩
  · rcases (H.new_get h cells).1 hk with hk | ⟨rfl, rfl⟩
    · obtain ⟨h1, h2, h3, h4, h5, h6, h7⟩ := hr.blk b k hk
      have hi : ∀ g, (ι.set h.size 0 L) b g = ι b g := fun g => Map.set_ne ι L (.inl (Nat.ne_of_lt (H.lt_size hk)))
      refine ⟨by rw [hi]; exact h1, h2, fun g hg => by rw [hi, hw, Array.size_push]; have := h3 g hg; omega, fun g hg => by rw [hi]; exact h4 g hg, fun g g' hg hg' => by rw [hi, hi]; exact h5 g g' hg hg', fun g hg => by rw [hi]; exact h6 g hg, fun g hg hg' => ?_⟩
      rw [hi]
      obtain ⟨c, e', fz', hc', r, hj⟩ := h7 g hg hg'
      refine ⟨c, e', fz', (hold _ (h3 g hg')).trans hc', r, fun j a b => ?_⟩
      obtain ⟨u, v, a1, a2, a3⟩ := hj j a b
      exact ⟨u, v, a1, a2, a3.step ha⟩
    · have hi : (ι.set h.size 0 L) h.size 0 = L := Map.set_self ι _ _ L
      have g0 : ∀ g, g ≤ 0 → g = 0 := fun g hg => Nat.le_zero.1 hg
      refine ⟨by rw [hi, ← hL], Nat.le_refl _, fun g hg => by rw [g0 g hg, hi, hLb, hw, Array.size_push]; omega, fun g hg => ?_, fun g g' hg hg' => ?_, fun g hg => ?_, fun g _ hg => ?_⟩
      · rw [g0 g hg, hi, hLb]
        exact ⟨fun h => (by cases h), fun _ => hr.base⟩
      · rw [g0 g' hg', g0 g (by simp at hg'; omega)]
        exact ⟨Nat.le_refl _, fun _ => ⟨rfl, rfl⟩⟩
      · rw [g0 g hg, hi, ← hL]
        exact ⟨Nat.zero_le _, fun _ => hl⟩
      · rw [g0 g hg, hi]
        refine ⟨C, e, fz, by rw [hLb, hw]; simp, fun _ => ⟨hfz, by rw [← hL]; simpa using hcend⟩, fun j _ hj => ?_⟩
        rw [← hL] at hj ⊢
        simp only [Nat.sub_zero, Nat.zero_add] at hj ⊢
        have hj' : j < cells.length := hj
        obtain ⟨v, hv, hrv⟩ := hc.get (List.getElem?_eq_getElem hj')
        rw [List.getElem?_take, if_pos hj'] at hv
        exact ⟨cells[j], v, List.getElem?_eq_getElem hj', by simpa using hv, hrv.step (hL ▸ ha)⟩
  · intro b b' k k' hk hk' hne hro hro' g g' hg hg'
    rcases (H.new_get h cells).1 hk with hk | ⟨rfl, rfl⟩ <;> rcases (H.new_get h cells).1 hk' with hk' | ⟨rfl, rfl⟩
    · rw [Map.set_ne ι L (.inl (Nat.ne_of_lt (H.lt_size hk))), Map.set_ne ι L (.inl (Nat.ne_of_lt (H.lt_size hk')))]
      exact hr.disj b b' k k' hk hk' hne hro hro' g g' hg hg'
    · rw [Map.set_ne ι L (.inl (Nat.ne_of_lt (H.lt_size hk))), Nat.le_zero.1 hg', Map.set_self, hLb]
      exact Nat.ne_of_lt ((hr.blk b k hk).lt g hg)
    · rw [Map.set_ne ι L (.inl (Nat.ne_of_lt (H.lt_size hk'))), Nat.le_zero.1 hg, Map.set_self, hLb]
      exact (Nat.ne_of_lt ((hr.blk b' k' hk').lt g' hg')).symm
    · exact absurd rfl hne
  · rw [hw, Array.size_push]
    have := hr.base
    omega
  · intro b k hk u hu
    have hs : h.size ≤ (h.new cells).size := by simp [H.new, H.size]
    rcases (H.new_get h cells).1 hk with hk | ⟨rfl, rfl⟩
    · exact under_mono hs (hr.wf b k hk u hu)
    · exact under_mono hs (unders_mem hc.unders u hu)

theorem H.write_some {h h' : H} {b off ver : Nat} {vs : List V} (hw : h.write b off ver vs = some h') : ∃ k, h.blks[b]? = some k ∧ k.ro = false ∧ ver = k.gen ∧ off + vs.length ≤ k.cells.length ∧ vs.all V.cellOk = true ∧
    h'.blks = h.blks.set b { k with cells := splice k.cells off vs, valid := k.gen } ∧ h'.esc = h.esc ++ escs b vs := by
  unfold H.write at hw
  cases hk : h.blks[b]? with
  | none => simp [hk] at hw
  | some k =>
    simp only [hk] at hw
    split at hw
    · rename_i hc
      injection hw with hw
      exact ⟨k, rfl, hc.1, hc.2.1, hc.2.2.1, hc.2.2.2, by rw [← hw], by rw [← hw]⟩
    · cases hw
theorem H.grow_some {h h' : H} {b ver : Nat} {vs : List V} (hw : h.grow b ver vs = some h') : ∃ k, h.blks[b]? = some k ∧ k.ro = false ∧ ver = k.gen ∧ vs.all V.cellOk = true ∧
    h'.blks = h.blks.set b { k with cells := k.cells ++ vs, gen := k.gen + 1 } ∧ h'.esc = h.esc ++ escs b vs := by
  unfold H.grow at hw
  cases hk : h.blks[b]? with
  | none => simp [hk] at hw
  | some k =>
    simp only [hk] at hw
    split at hw
    · rename_i hc
      injection hw with hw
      exact ⟨k, rfl, hc.1, hc.2.1, hc.2.2, by rw [← hw], by rw [← hw]⟩
    · cases hw

theorem set_get {l : List Blk} {b : Nat} {k : Blk} (x : Blk) (hk : l[b]? = some k) {b' : Nat} {k' : Blk} : (l.set b x)[b']? = some k' ↔ (b' = b ∧ k' = x) ∨ (b' ≠ b ∧ l[b']? = some k') := by
  have hlt := (List.getElem?_eq_some_iff.1 hk).1
  by_cases hb : b' = b
  · subst hb
    rw [List.getElem?_set_self hlt]
    constructor
    · intro h1
      injection h1 with h1
      exact .inl ⟨rfl, h1.symm⟩
    · rintro (⟨_, rfl⟩ | ⟨h1, _⟩)
      · rfl
      · exact absurd rfl h1
  · rw [List.getElem?_set_ne (Ne.symm hb)]
    constructor
    · exact fun h1 => .inr ⟨hb, h1⟩
    · rintro (⟨h1, _⟩ | ⟨_, h1⟩)
      · exact absurd h1 hb
      · exact h1

theorem splice_length (l : List V) (off : Nat) (vs : List V) (h : off + vs.length ≤ l.length) : (splice l off vs).length = l.length := by
  simp only [splice, List.length_append, List.length_take, List.length_drop]
  omega
theorem splice_get (l : List V) (off : Nat) (vs : List V) (h : off + vs.length ≤ l.length) (j : Nat) : (splice l off vs)[j]? = if off ≤ j ∧ j < off + vs.length then vs[j - off]? else l[j]? := by
  unfold splice
  by_cases h1 : j < off
  · rw [List.append_assoc, List.getElem?_append_left (by simp; omega), List.getElem?_take, if_pos h1, if_neg (by omega)]
  · by_cases h2 : j < off + vs.length
    · rw [List.getElem?_append_left (by simp; omega), List.getElem?_append_right (by simp; omega), if_pos ⟨by omega, h2⟩]
      simp only [List.length_take]
      rw [show min off l.length = off by omega]
    · rw [List.getElem?_append_right (by simp; omega), List.getElem?_drop, if_neg (by omega)]
      simp only [List.length_append, List.length_take]
      rw [show off + vs.length + (j - (min off l.length + vs.length)) = j by omega]

/-- The true cells behind a write. -/
theorem setCells_heap (b : Nat) : ∀ (vs : List Value) (o : Nat) (w : World) (c : Array Value) (e : TypeId) (fz : Nat × Nat), w.heap[b]? = some (.cells c e fz) → o + vs.length ≤ c.size →
    (∃ c' : Array Value, (w.setCells b o vs).heap[b]? = some (.cells c' e fz) ∧ c'.size = c.size ∧ ∀ j : Nat, c'[j]? = if o ≤ j ∧ j < o + vs.length then vs[j - o]? else c[j]?) ∧
    (∀ i, i ≠ b → (w.setCells b o vs).heap[i]? = w.heap[i]?) ∧ (w.setCells b o vs).heap.size = w.heap.size
  | [], o, w, c, e, fz, hc, _ => ⟨⟨c, hc, rfl, fun j => by rw [if_neg (by simp)]⟩, fun _ _ => rfl, rfl⟩
  | v :: r, o, w, c, e, fz, hc, hl => by
    simp only [List.length_cons] at hl
    have hs : (w.setCell ⟨b, o, none⟩ v).heap[b]? = some (.cells (c.setIfInBounds o v) e fz) := by
      obtain ⟨hb, _⟩ := Array.getElem?_eq_some_iff.1 hc
      simp only [World.setCell, Array.getElem?_modify]
      rw [hc]
      simp
    obtain ⟨⟨c', h1, h2, h3⟩, h4, h5⟩ := setCells_heap b r (o + 1) _ _ e fz hs (by simp; omega)
    refine ⟨⟨c', h1, by simpa using h2, fun j => ?_⟩, fun i hi => (h4 i hi).trans (Below.heap_setCell w _ _ i hi), by simp only [World.setCells]; rw [h5]; simp [World.setCell]⟩
    rw [h3 j]
    simp only [List.length_cons]
    by_cases hj : j = o
    · subst hj
      rw [if_neg (by omega), if_pos (by omega)]
      simp
      have : j < c.size := by omega
      simp [this]
    · by_cases h6 : o + 1 ≤ j ∧ j < o + 1 + r.length
      · rw [if_pos h6, if_pos (by omega), show j - o = j - (o + 1) + 1 by omega, List.getElem?_cons_succ]
      · rw [if_neg h6, if_neg (by omega), Array.getElem?_setIfInBounds_ne (Ne.symm hj)]

theorem cellOk_one {ι : Map} {h : H} {u : V} {v : Value} (hr : RelV ι h u v) (hc : V.cellOk u = true) : v.oneCell' = true := by
  cases u <;> simp only [RelV, V.cellOk] at hr hc
  all_goals (first | (subst hr; rfl) | skip)
  · obtain ⟨_, _, _, rfl⟩ := hr; rfl
  · obtain ⟨_, _, rfl, _⟩ := hr; rfl
  · obtain ⟨_, _, rfl, _⟩ := hr; rfl
  · cases hc
  · cases hc
  · obtain ⟨_, rfl, _⟩ := hr; rfl

theorem cellOks_one {ι : Map} {h : H} {us : List V} {vs : List Value} (hr : RelVs ι h us vs) (hc : us.all V.cellOk = true) : ∀ v ∈ vs, v.oneCell' = true := by
  intro v hv
  obtain ⟨i, hi, rfl⟩ := List.mem_iff_getElem.1 hv
  have hi' : i < us.length := by rw [hr.length]; exact hi
  obtain ⟨v', hv', hr'⟩ := hr.get (List.getElem?_eq_getElem hi')
  rw [List.getElem?_eq_getElem hi] at hv'
  injection hv' with hv'
  rw [hv']
  exact cellOk_one hr' (List.all_eq_true.1 hc _ (List.getElem_mem hi'))

theorem below_setCells (b : Nat) (base : Nat) (hb : base ≤ b) : ∀ (vs : List Value) (o : Nat) (w : World), Below base w (w.setCells b o vs)
  | [], _, _w => Below.refl _ _
  | v :: r, o, w => ((Below.refl base w).setCell (p := ⟨b, o, none⟩) hb v).trans (below_setCells b base hb r (o + 1) _)

/-- What a write of cells does, where they lie. -/
theorem store_run {P : Program} {w : World} {b o : Nat} {vs : List Value} {c : Array Value} {e : TypeId} {fz : Nat × Nat} (hc : w.heap[b]? = some (.cells c e fz)) (hfz : ∀ i, i < c.size → ¬ (fz.1 ≤ i ∧ i < fz.2))
    (hl : o + vs.length ≤ c.size) (h1 : ∀ v ∈ vs, v.oneCell' = true) : (storeCells ⟨b, o, none⟩ vs).run P w = .ok () (w.setCells b o vs) := by
  have := run_storeCells_cells (P := P) b o vs 0 w (fun j hj => by rw [cell_of hc]; simp; omega) (fun j hj => by
    obtain ⟨lo, hi⟩ := fz
    have := hfz (o + 0 + j) (by omega)
    simp only [World.frozen?, hc]
    simp at this ⊢
    exact this) h1
  simpa using this

/-- Cells of a block of its own are written. -/
theorem write_ok {ι : Map} {base : Nat} {h h' : H} {w : World} (P : Program) (hr : Rel ι base h w) {b off ver : Nat} {us : List V} {vs : List Value} (hw : h.write b off ver us = some h')
    (h1 : (ι b ver).lo ≤ off) (hvs : RelVs ι h us vs) :
    (storeCells ⟨(ι b ver).blk, (ι b ver).r + (off - (ι b ver).lo), none⟩ vs).run P w = .ok () (w.setCells (ι b ver).blk ((ι b ver).r + (off - (ι b ver).lo)) vs) ∧
    Rel ι base h' (w.setCells (ι b ver).blk ((ι b ver).r + (off - (ι b ver).lo)) vs) ∧ Agree ι h ι h' ∧ Below base w (w.setCells (ι b ver).blk ((ι b ver).r + (off - (ι b ver).lo)) vs) := by
  obtain ⟨k, hk, hro, rfl, hlen, hok, hblks, -⟩ := H.write_some hw
  have hb := hr.blk b k hk
  generalize hL : ι b k.gen = L at *
  have htop : L.n = k.cells.length := hL ▸ hb.top
  have hends := hb.ends k.gen (Nat.le_refl _)
  have hside := (hb.side k.gen (Nat.le_refl _)).2 hro
  rw [hL] at hends hside
  obtain ⟨c, e, fz, hc, hf, hj⟩ := hb.cells k.gen hb.val (Nat.le_refl _)
  rw [hL] at hc hf hj
  obtain ⟨hfz, hroom⟩ := hf hro
  have hvl := hvs.length
  have hcend := hends.2 hro
  have hfit : L.r + (off - L.lo) + vs.length ≤ c.size := by omega
  have ha : Agree ι h ι h' := fun i ki hki => by
    refine ⟨?_, fun _ _ => rfl⟩
    by_cases hib : i = b
    · subst hib
      rw [hk] at hki
      injection hki with hki
      subst hki
      exact ⟨{ k with cells := splice k.cells off us, valid := k.gen }, by rw [hblks]; exact (set_get _ hk).2 (.inl ⟨rfl, rfl⟩), Nat.le_refl _, rfl⟩
    · exact ⟨ki, by rw [hblks]; exact (set_get _ hk).2 (.inr ⟨hib, hki⟩), Nat.le_refl _, rfl⟩
  obtain ⟨⟨c', hc1, hc2, hc3⟩, hoth, hsz⟩ := setCells_heap L.blk vs (L.r + (off - L.lo)) w c e fz hc hfit
  refine ⟨store_run hc hfz hfit (cellOks_one hvs hok), ⟨fun i ki hki => ?_, fun i i' ki ki' hki hki' hne hro1 hro2 g g' hg hg' => ?_, by rw [hsz]; exact hr.base, fun i ki hki u hu => ?_⟩, ha, below_setCells _ _ hside _ _ _⟩
  · rw [hblks] at hki
    rcases (set_get _ hk).1 hki with ⟨hib, hki'⟩ | ⟨hib, hki⟩
    · subst hib hki'
      refine ⟨by simp only; rw [hL, splice_length _ _ _ hlen]; exact htop, Nat.le_refl _, fun g hg => by rw [hsz]; exact hb.lt g hg, hb.side, hb.chain, hb.ends, fun g hg1 hg2 => ?_⟩
      simp only at hg1 hg2
      obtain rfl : g = k.gen := Nat.le_antisymm hg2 hg1
      rw [hL]
      refine ⟨c', e, fz, hc1, fun _ => ⟨by rw [hc2]; exact hfz, by rw [hc2]; exact hroom⟩, fun j hj1 hj2 => ?_⟩
      simp only
      rw [splice_get _ _ _ hlen, hc3]
      by_cases hin : off ≤ j ∧ j < off + us.length
      · rw [if_pos hin, if_pos (by omega)]
        have hlt : j - off < us.length := by omega
        obtain ⟨v, hv, hrv⟩ := hvs.get (List.getElem?_eq_getElem hlt)
        exact ⟨_, v, List.getElem?_eq_getElem hlt, by rw [show L.r + (j - L.lo) - (L.r + (off - L.lo)) = j - off by omega]; exact hv, hrv.step ha⟩
      · rw [if_neg hin, if_neg (by omega)]
        obtain ⟨u, v, a1, a2, a3⟩ := hj j hj1 hj2
        exact ⟨u, v, a1, a2, a3.step ha⟩
    · have hbi := hr.blk i ki hki
      refine ⟨hbi.top, hbi.val, fun g hg => by rw [hsz]; exact hbi.lt g hg, hbi.side, hbi.chain, hbi.ends, fun g hg1 hg2 => ?_⟩
      obtain ⟨ci, ei, fzi, hci, hfi, hji⟩ := hbi.cells g hg1 hg2
      have hne : (ι i g).blk ≠ L.blk := by
        cases hri : ki.ro with
        | true =>
          have := (hbi.side g hg2).1 hri
          omega
        | false =>
          rw [← hL]
          exact hr.disj i b ki k hki hk hib hri hro g k.gen hg2 (Nat.le_refl _)
      refine ⟨ci, ei, fzi, (hoth _ hne).trans hci, hfi, fun j hj1 hj2 => ?_⟩
      obtain ⟨u, v, a1, a2, a3⟩ := hji j hj1 hj2
      exact ⟨u, v, a1, a2, a3.step ha⟩
  · rw [hblks] at hki hki'
    have back : ∀ {j : Nat} {kj : Blk}, (h.blks.set b { k with cells := splice k.cells off us, valid := k.gen })[j]? = some kj → ∃ k0 : Blk, h.blks[j]? = some k0 ∧ k0.ro = kj.ro ∧ k0.gen = kj.gen := fun {j kj} hx => by
      rcases (set_get _ hk).1 hx with ⟨h1, h2⟩ | ⟨_, hx⟩
      · subst h1 h2
        exact ⟨k, hk, rfl, rfl⟩
      · exact ⟨kj, hx, rfl, rfl⟩
    obtain ⟨k1, e1, e2, e3⟩ := back hki
    obtain ⟨k2, e4, e5, e6⟩ := back hki'
    exact hr.disj i i' k1 k2 e1 e4 hne (e2.trans hro1) (e5.trans hro2) g g' (e3 ▸ hg) (e6 ▸ hg')
  · have hs : h'.size = h.size := by simp [H.size, hblks]
    rw [hs]
    rw [hblks] at hki
    rcases (set_get _ hk).1 hki with ⟨hib, hki'⟩ | ⟨hib, hki⟩
    · subst hib hki'
      simp only [splice, List.mem_append] at hu
      rcases hu with (hu | hu) | hu
      · exact hr.wf _ k hk u (List.mem_of_mem_take hu)
      · exact unders_mem hvs.unders u hu
      · exact hr.wf _ k hk u (List.mem_of_mem_drop hu)
    · exact hr.wf i ki hki u hu

end Go.Hl
end
section
/-! Hl: a block that grows, where it lies or in a new true block. -/
namespace Go.Hl
open Go.RowKit

theorem agree_grow {ι : Map} {h h' : H} {b ver : Nat} {us : List V} (hw : h.grow b ver us = some h') (L : Loc) : Agree ι h (ι.set b (ver + 1) L) h' := by
  obtain ⟨k, hk, hro, rfl, hok, hblks, -⟩ := H.grow_some hw
  intro i ki hki
  by_cases hib : i = b
  · subst hib
    rw [hk] at hki
    injection hki with hki
    subst hki
    refine ⟨⟨{ k with cells := k.cells ++ us, gen := k.gen + 1 }, by rw [hblks]; exact (set_get _ hk).2 (.inl ⟨rfl, rfl⟩), Nat.le_succ _, rfl⟩, fun g hg => Map.set_ne ι L (.inr (by omega))⟩
  · exact ⟨⟨ki, by rw [hblks]; exact (set_get _ hk).2 (.inr ⟨hib, hki⟩), Nat.le_refl _, rfl⟩, fun g _ => Map.set_ne ι L (.inl hib)⟩

/-- What a growth leaves, wherever its cells lie now: L. -/
theorem grow_rel {ι : Map} {base : Nat} {h h' : H} {w w' : World} (hr : Rel ι base h w) {b ver : Nat} {us : List V} (hw : h.grow b ver us = some h') (L : Loc)
    (hsz : w.heap.size ≤ w'.heap.size) (hLlt : L.blk < w'.heap.size) (hLbase : base ≤ L.blk)
    (hLn : ∀ k, h.blks[b]? = some k → L.n = k.cells.length + us.length ∧ L.lo ≤ L.n ∧ L.n ≤ L.cend ∧
      (∀ g, g ≤ k.gen → (ι b g).blk = L.blk → (ι b g).r = L.r ∧ (ι b g).lo = L.lo))
    (hLne : ∀ i k, h.blks[i]? = some k → i ≠ b → ∀ g, g ≤ k.gen → (ι i g).blk ≠ L.blk)
    (hoth : ∀ i, i < w.heap.size → i ≠ L.blk → w'.heap[i]? = w.heap[i]?)
    (hold : ∀ k, h.blks[b]? = some k → ∀ g, k.valid ≤ g → g ≤ k.gen → (ι b g).blk = L.blk → CellsAt ι h w' k.ro (ι b g) k.cells)
    (hnew : ∀ k, h.blks[b]? = some k → CellsAt ι h w' false L (k.cells ++ us)) (hus : V.unders h.size us = true) :
    Rel (ι.set b (ver + 1) L) base h' w' := by
  have ha : Agree ι h (ι.set b (ver + 1) L) h' := agree_grow hw L
  obtain ⟨k, hk, hro, rfl, hok, hblks, -⟩ := H.grow_some hw
  have hb := hr.blk b k hk
  obtain ⟨hn, hlo, hce, hco⟩ := hLn k hk
  have hiι : ∀ i g, i ≠ b ∨ g ≤ k.gen → (ι.set b (k.gen + 1) L) i g = ι i g := fun i g hh => Map.set_ne ι L (hh.imp id (fun z => by omega))
  have hself : (ι.set b (k.gen + 1) L) b (k.gen + 1) = L := Map.set_self ι _ _ L
  have lift : ∀ {ro : Bool} {l : Loc} {cs cs' : List V}, CellsAt ι h w' ro l cs → (∀ j, j < l.n → ∀ u : V, cs[j]? = some u → cs'[j]? = some u) → CellsAt (ι.set b (k.gen + 1) L) h' w' ro l cs' := fun {ro l cs cs'} hc hs => by
    obtain ⟨c, e, fz, h1, h2, h3⟩ := hc
    refine ⟨c, e, fz, h1, h2, fun j hj1 hj2 => ?_⟩
    obtain ⟨u, v, a1, a2, a3⟩ := h3 j hj1 hj2
    exact ⟨u, v, hs j hj2 u a1, a2, a3.step ha⟩
  have move : ∀ {i : Nat} {ki : Blk} {g : Nat}, h.blks[i]? = some ki → ki.valid ≤ g → g ≤ ki.gen → (ι i g).blk ≠ L.blk → CellsAt ι h w' ki.ro (ι i g) ki.cells := fun {i ki g} hki h1 h2 hne => by
    obtain ⟨c, e, fz, a1, a2, a3⟩ := (hr.blk i ki hki).cells g h1 h2
    exact ⟨c, e, fz, (hoth _ ((hr.blk i ki hki).lt g h2) hne).trans a1, a2, a3⟩
  have hpre : ∀ g, g ≤ k.gen → (ι b g).n ≤ k.cells.length := fun g hg => hb.top ▸ (hb.chain g k.gen hg (Nat.le_refl _)).1
  refine ⟨fun i ki hki => ?_, fun i i' ki ki' hki hki' hne hro1 hro2 g g' hg hg' => ?_, Nat.le_trans hr.base hsz, fun i ki hki u hu => ?_⟩
  · rw [hblks] at hki
    rcases (set_get _ hk).1 hki with ⟨hib, hkk⟩ | ⟨hib, hki⟩
    · subst hib hkk
      have gcase : ∀ {g}, g ≤ k.gen + 1 → g ≤ k.gen ∨ g = k.gen + 1 := fun {g} hg => by omega
      refine ⟨by simp only [hself, hn, List.length_append], Nat.le_succ_of_le hb.val, fun g hg => ?_, fun g hg => ?_, fun g g' hgg hg' => ?_, fun g hg => ?_, fun g hg1 hg2 => ?_⟩
      · rcases gcase hg with hg | rfl
        · rw [hiι _ _ (.inr hg)]
          exact Nat.lt_of_lt_of_le (hb.lt g hg) hsz
        · rw [hself]
          exact hLlt
      · rcases gcase hg with hg | rfl
        · rw [hiι _ _ (.inr hg)]
          exact hb.side g hg
        · rw [hself]
          simp only [hro]
          exact ⟨fun z => by simp at z, fun _ => hLbase⟩
      · rcases gcase hg' with hg' | rfl
        · rw [hiι _ _ (.inr hg'), hiι _ _ (.inr (Nat.le_trans hgg hg'))]
          exact hb.chain g g' hgg hg'
        · rw [hself]
          rcases gcase hgg with hg | rfl
          · rw [hiι _ _ (.inr hg)]
            exact ⟨by have := hpre g hg; omega, hco g hg⟩
          · rw [hself]
            exact ⟨Nat.le_refl _, fun _ => ⟨rfl, rfl⟩⟩
      · rcases gcase hg with hg | rfl
        · rw [hiι _ _ (.inr hg)]
          exact hb.ends g hg
        · rw [hself]
          exact ⟨hlo, fun _ => hce⟩
      · simp only at hg1 hg2 ⊢
        rcases gcase hg2 with hg | rfl
        · rw [hiι _ _ (.inr hg)]
          have hc : CellsAt ι h w' k.ro (ι i g) k.cells := by
            by_cases he : (ι i g).blk = L.blk
            · exact hold k hk g hg1 hg he
            · exact move hk hg1 hg he
          refine lift hc fun j hj u hu => ?_
          rw [List.getElem?_append_left (by have := hpre g hg; omega)]
          exact hu
        · rw [hself, hro]
          exact lift (hnew k hk) fun _ _ _ hu => hu
    · have hbi := hr.blk i ki hki
      have e : ∀ g, (ι.set b (k.gen + 1) L) i g = ι i g := fun g => hiι i g (.inl hib)
      refine ⟨by rw [e]; exact hbi.top, hbi.val, fun g hg => by rw [e]; exact Nat.lt_of_lt_of_le (hbi.lt g hg) hsz, fun g hg => by rw [e]; exact hbi.side g hg, fun g g' h1 h2 => by rw [e, e]; exact hbi.chain g g' h1 h2, fun g hg => by rw [e]; exact hbi.ends g hg, fun g hg1 hg2 => ?_⟩
      rw [e]
      exact lift (move hki hg1 hg2 (hLne i ki hki hib g hg2)) fun _ _ _ hu => hu
  · rw [hblks] at hki hki'
    have one : ∀ {j : Nat} {kj : Blk} {g : Nat}, h.blks[j]? = some kj → j ≠ b → g ≤ kj.gen → kj.ro = false → ∀ g', g' ≤ k.gen + 1 → (ι j g).blk ≠ ((ι.set b (k.gen + 1) L) b g').blk := fun {j kj g} hj hjb hg hjr g' hg' => by
      by_cases h1 : g' ≤ k.gen
      · rw [hiι _ _ (.inr h1)]
        exact hr.disj j b kj k hj hk hjb hjr hro g g' hg h1
      · obtain rfl : g' = k.gen + 1 := by omega
        rw [hself]
        exact hLne j kj hj hjb g hg
    rcases (set_get _ hk).1 hki with ⟨h1, h2⟩ | ⟨hib, hx⟩ <;> rcases (set_get _ hk).1 hki' with ⟨h3, h4⟩ | ⟨hib', hx'⟩
    · exact absurd (h1.trans h3.symm) hne
    · subst h1 h2
      rw [hiι i' g' (.inl hib')]
      exact (one hx' hib' hg' hro2 g hg).symm
    · subst h3 h4
      rw [hiι i g (.inl hib)]
      exact one hx hib hg hro1 g' hg'
    · rw [hiι i g (.inl hib), hiι i' g' (.inl hib')]
      exact hr.disj i i' ki ki' hx hx' hne hro1 hro2 g g' hg hg'
  · have hs : h'.size = h.size := by simp [H.size, hblks]
    rw [hs]
    rw [hblks] at hki
    rcases (set_get _ hk).1 hki with ⟨hib, hki'⟩ | ⟨hib, hki⟩
    · subst hib hki'
      simp only [List.mem_append] at hu
      rcases hu with hu | hu
      · exact hr.wf _ k hk u hu
      · exact unders_mem hus u hu
    · exact hr.wf i ki hki u hu

/-- There is room where it lies. -/
theorem grow_here {ι : Map} {base : Nat} {h h' : H} {w : World} (P : Program) (hr : Rel ι base h w) {b ver : Nat} {us : List V} {vs : List Value} (hw : h.grow b ver us = some h') (hvs : RelVs ι h us vs)
    {k : Blk} (hk : h.blks[b]? = some k) (hroom : k.cells.length + us.length ≤ (ι b ver).cend) :
    (storeCells ⟨(ι b ver).blk, (ι b ver).r + (k.cells.length - (ι b ver).lo), none⟩ vs).run P w = .ok () (w.setCells (ι b ver).blk ((ι b ver).r + (k.cells.length - (ι b ver).lo)) vs) ∧
    Rel (ι.set b (ver + 1) { ι b ver with n := k.cells.length + us.length }) base h' (w.setCells (ι b ver).blk ((ι b ver).r + (k.cells.length - (ι b ver).lo)) vs) ∧
    Below base w (w.setCells (ι b ver).blk ((ι b ver).r + (k.cells.length - (ι b ver).lo)) vs) := by
  obtain ⟨k', hk', hro, hver, hok, hblks, -⟩ := H.grow_some hw
  rw [hk] at hk'
  injection hk' with hk'
  subst hk'
  subst hver
  have hb := hr.blk b k hk
  have htop := hb.top
  have hends := hb.ends k.gen (Nat.le_refl _)
  have hside := (hb.side k.gen (Nat.le_refl _)).2 hro
  have hlt := hb.lt k.gen (Nat.le_refl _)
  obtain ⟨c, e, fz, hc, hf, hj⟩ := hb.cells k.gen hb.val (Nat.le_refl _)
  obtain ⟨hfz, hrm⟩ := hf hro
  have hvl := hvs.length
  have hchain := fun g hg => hb.chain g k.gen hg (Nat.le_refl _)
  have hdisj : ∀ i ki, h.blks[i]? = some ki → i ≠ b → ∀ g, g ≤ ki.gen → (ι i g).blk ≠ (ι b k.gen).blk := fun i ki hki hib g hg => by
    cases hri : ki.ro with
    | true =>
      have := ((hr.blk i ki hki).side g hg).1 hri
      omega
    | false => exact hr.disj i b ki k hki hk hib hri hro g k.gen hg (Nat.le_refl _)
  have hcells := hb.cells
  generalize hL : ι b k.gen = L at *
  have hlo := hends.1
  have hfit : L.r + (k.cells.length - L.lo) + vs.length ≤ c.size := by omega
  obtain ⟨⟨c', hc1, hc2, hc3⟩, hoth, hsz⟩ := setCells_heap L.blk vs (L.r + (k.cells.length - L.lo)) w c e fz hc hfit
  refine ⟨store_run hc hfz hfit (cellOks_one hvs hok), grow_rel hr hw _ (by rw [hsz]; exact Nat.le_refl _) (by rw [hsz]; exact hlt) hside (fun ki hki => ?_) hdisj (fun i _ hne => hoth i hne) (fun ki hki g hg1 hg2 he => ?_) (fun ki hki => ?_) hvs.unders, below_setCells _ _ hside _ _ _⟩
  · rw [hk] at hki
    injection hki with hki
    subst hki
    exact ⟨rfl, by simp only; omega, by simp only; omega, fun g hg he => (hchain g hg).2 he⟩
  · rw [hk] at hki
    injection hki with hki
    subst hki
    simp only at he
    obtain ⟨a1, a2⟩ := (hchain g hg2).2 he
    have hng := (hchain g hg2).1
    obtain ⟨cg, eg, fg, b1, b2, b3⟩ := hcells g hg1 hg2
    rw [he, hc] at b1
    injection b1 with b1
    injection b1 with b1 b1' b1''
    subst b1 b1' b1''
    refine ⟨c', e, fz, by rw [he]; exact hc1, fun z => by rw [hc2]; exact b2 z, fun j hj1 hj2 => ?_⟩
    obtain ⟨u, v, d1, d2, d3⟩ := b3 j hj1 hj2
    refine ⟨u, v, d1, ?_, d3⟩
    rw [hc3, if_neg (by omega)]
    exact d2
  · rw [hk] at hki
    injection hki with hki
    subst hki
    refine ⟨c', e, fz, hc1, fun _ => ⟨by rw [hc2]; exact hfz, by rw [hc2]; exact hrm⟩, fun j hj1 hj2 => ?_⟩
    simp only at hj1 hj2 ⊢
    rw [hc3]
    by_cases hjn : j < k.cells.length
    · rw [if_neg (by omega), List.getElem?_append_left hjn]
      exact hj j hj1 (by omega)
    · rw [if_pos (by omega), List.getElem?_append_right (by omega)]
      have hlt' : j - k.cells.length < us.length := by omega
      obtain ⟨v, hv, hrv⟩ := hvs.get (List.getElem?_eq_getElem hlt')
      exact ⟨_, v, List.getElem?_eq_getElem hlt', by rw [show L.r + (j - L.lo) - (L.r + (k.cells.length - L.lo)) = j - k.cells.length by omega]; exact hv, hrv⟩

/-- It moves into a new block. -/
theorem grow_away {ι : Map} {base : Nat} {h h' : H} {w w' : World} (hr : Rel ι base h w) {b ver off cend : Nat} {us : List V} (hw : h.grow b ver us = some h')
    {k : Blk} (hk : h.blks[b]? = some k) (hoff : off ≤ k.cells.length) {C : Array Value} {e : TypeId}
    (hw' : w'.heap = w.heap.push (.cells C e (0, 0))) (hC : RelVs ι h (k.cells.drop off ++ us) (C.toList.take (k.cells.length - off + us.length)))
    (hcend : k.cells.length + us.length ≤ cend) (hroom : cend - off ≤ C.size) :
    Rel (ι.set b (ver + 1) ⟨w.heap.size, 0, off, k.cells.length + us.length, cend⟩) base h' w' := by
  have hold : ∀ i, i < w.heap.size → w'.heap[i]? = w.heap[i]? := fun i hi => by rw [hw', Array.getElem?_push_lt hi]; simp [hi]
  refine grow_rel hr hw _ (by rw [hw']; simp) (by rw [hw']; simp) hr.base (fun ki hki => ?_) (fun i ki hki _ g hg => Nat.ne_of_lt ((hr.blk i ki hki).lt g hg)) (fun i hi _ => hold i hi) (fun ki hki g _ hg he => ?_) (fun ki hki => ?_) (unders_append.1 hC.unders).2
  · rw [hk] at hki
    injection hki with hki
    subst hki
    refine ⟨rfl, by simp only; omega, hcend, fun g hg he => ?_⟩
    have := (hr.blk b k hk).lt g hg
    simp only at he
    omega
  · have := (hr.blk b ki hki).lt g hg
    simp only at he
    omega
  · rw [hk] at hki
    injection hki with hki
    subst hki
    refine ⟨C, e, (0, 0), by rw [hw']; simp, fun _ => ⟨fun i _ => by simp, by simpa using hroom⟩, fun j hj1 hj2 => ?_⟩
    simp only [Nat.zero_add] at hj1 hj2 ⊢
    have hlt : j - off < (k.cells.drop off ++ us).length := by simp; omega
    obtain ⟨v, hv, hrv⟩ := hC.get (List.getElem?_eq_getElem hlt)
    rw [List.getElem?_take, if_pos (by omega)] at hv
    refine ⟨_, v, ?_, by simpa using hv, hrv⟩
    rw [← List.getElem?_eq_getElem hlt]
    by_cases hjn : j < k.cells.length
    · rw [List.getElem?_append_left hjn, List.getElem?_append_left (by simp; omega), List.getElem?_drop, show off + (j - off) = j by omega]
    · rw [List.getElem?_append_right (by omega), List.getElem?_append_right (by simp; omega)]
      simp only [List.length_drop]
      rw [show j - off - (k.cells.length - off) = j - k.cells.length by omega]

end Go.Hl
end
section
/-! Hl: operations without memory are the program's. -/
namespace Go.Hl
open Go.RowKit

/-- What the table of types says is the program's. -/
theorem ti_ok {P : Program} {t : TypeId} {i : TI} (h : ti P t = some i) : ∃ I u z, P.info? t = some I ∧ P.underlying t = some u ∧ I.zero = some z ∧ tyOf P u = some i.d ∧
    i.sz = I.size ∧ i.agg = aggD u ∧ i.bytes = I.bytes ∧ i.zero = z.cells.toList.map ofCell := by
  unfold ti at h
  split at h
  · rename_i I u hI hu
    split at h
    · rename_i z d hz hd
      injection h with h
      exact ⟨I, u, z, hI, hu, hz, by rw [← h]; exact hd, by rw [← h], by rw [← h], by rw [← h], by rw [← h]⟩
    · cases h
  · cases h

theorem tyOf_slice {P : Program} {u : TypeDesc} {e : TypeId} {n m : Nat} (h : tyOf P u = some (.slice e n m)) : u = .slice e ∧ ∃ i, P.info? e = some i ∧ i.size = n ∧ i.bytes = m := by
  cases u <;> simp only [tyOf] at h <;> try (injection h with h; cases h)
  · split at h
    · rename_i i hi
      injection h with h
      injection h with h1 h2 h3
      subst h1
      exact ⟨rfl, i, hi, h2, h3⟩
    · cases h
  · split at h
    · injection h with h; cases h
    · cases h
  · split at h
    · injection h with h; cases h
    · injection h with h; cases h
theorem tyOf_str {P : Program} {u : TypeDesc} (h : tyOf P u = some .str) : u = .string := by
  cases u <;> simp only [tyOf] at h <;> try (injection h with h; cases h)
  · rfl
  · split at h
    · injection h with h; cases h
    · cases h
  · split at h
    · injection h with h; cases h
    · cases h
  · split at h
    · injection h with h; cases h
    · injection h with h; cases h
theorem tyOf_struct {P : Program} {u : TypeDesc} {l : List (Nat × Nat × Bool)} (h : tyOf P u = some (.struct l)) : ∃ fs, u = .struct fs ∧ fieldsOf P fs.toList = some l := by
  cases u <;> simp only [tyOf] at h <;> try (injection h with h; cases h)
  · split at h
    · injection h with h; cases h
    · cases h
  · split at h
    · injection h with h; cases h
    · cases h
  · split at h
    · rename_i fs l' hl
      injection h with h
      injection h with h
      subst h
      exact ⟨_, rfl, hl⟩
    · injection h with h; cases h
theorem tyOf_arr {P : Program} {u : TypeDesc} {n m : Nat} {g : Bool} (h : tyOf P u = some (.arr n m g)) : ∃ e i v, u = .array n e ∧ P.info? e = some i ∧ P.underlying e = some v ∧ i.size = m ∧ aggD v = g := by
  cases u <;> simp only [tyOf] at h <;> try (injection h with h; cases h)
  · split at h
    · injection h with h; cases h
    · cases h
  · split at h
    · rename_i i v hi hv
      injection h with h
      injection h with h1 h2 h3
      subst h1
      exact ⟨_, i, v, rfl, hi, hv, h2, h3⟩
    · cases h
  · split at h
    · injection h with h; cases h
    · injection h with h; cases h

theorem fieldsOf_get {P : Program} : ∀ {fs : List Field} {l : List (Nat × Nat × Bool)}, fieldsOf P fs = some l → ∀ {f : Nat} {o n : Nat} {g : Bool}, l[f]? = some (o, n, g) →
    ∃ F i u, fs[f]? = some F ∧ P.info? F.type = some i ∧ P.underlying F.type = some u ∧ F.offset = o ∧ i.size = n ∧ n ≠ 0 ∧ aggD u = g
  | [], l, h, f, o, n, g, hl => by
    simp only [fieldsOf] at h
    injection h with h
    subst h
    simp at hl
  | F :: fs, l, h, f, o, n, g, hl => by
    simp only [fieldsOf] at h
    split at h
    · rename_i i u r hi hu hr
      split at h
      · cases h
      · rename_i hz
        injection h with h
        subst h
        cases f with
        | zero =>
          simp only [List.getElem?_cons_zero] at hl
          injection hl with hl
          injection hl with h1 h2
          injection h2 with h2 h3
          exact ⟨F, i, u, by simp, hi, hu, h1, h2, h2 ▸ hz, h3⟩
        | succ f =>
          obtain ⟨F', i', u', a, b⟩ := fieldsOf_get hr (by simpa using hl)
          exact ⟨F', i', u', by simpa using a, b⟩
    · cases h

section
variable {P : Program} {w : World}
theorem r_und {t : TypeId} {u : TypeDesc} (h : P.underlying t = some u) : (underlying t).run P w = .ok u w := by simp [underlying, h]
theorem r_info {t : TypeId} {i : TypeInfo} (h : P.info? t = some i) : (typeInfo t).run P w = .ok i w := by simp [typeInfo, h]
theorem r_size {t : TypeId} {i : TypeInfo} (h : P.info? t = some i) : (sizeOf t).run P w = .ok i.size w := by simp [sizeOf, r_info h]
theorem r_zero {t : TypeId} {i : TypeInfo} {z : Value} (h : P.info? t = some i) (hz : i.zero = some z) : (zeroValue t).run P w = .ok z w := by simp [zeroValue, r_info h, hz]
theorem r_agg {t : TypeId} {u : TypeDesc} (h : P.underlying t = some u) : (isAgg t).run P w = .ok (aggD u) w := by
  unfold isAgg
  simp only [Sem.run_bind, r_und h, Result.andThen_ok]
  cases u <;> rfl
end

section
variable {P : Program} {ι : Map} {h : H} {w : World}

theorem ofCell_rel : ∀ v : Value, RelV ι h (ofCell v) v := by
  intro v
  unfold ofCell
  split
  all_goals first | exact RelV.undef _ | simp [RelV]
theorem ofCells_rel (l : List Value) : RelVs ι h (l.map ofCell) l := by
  induction l with
  | nil => simp [RelVs]
  | cons v l ih =>
    simp only [List.map_cons, RelVs]
    exact ⟨ofCell_rel v, ih⟩
theorem ofVal_rel (v : Value) : RelV ι h (ofVal v) v := by
  unfold ofVal
  split
  · simp only [RelV]
    exact ⟨_, rfl, ofCells_rel _⟩
  · exact ofCell_rel v

theorem RelVs.set {l : List V} {m : List Value} (hr : RelVs ι h l m) {x : V} {y : Value} (hxy : RelV ι h x y) (i : Nat) : RelVs ι h (l.set i x) (m.set i y) := by
  refine RelVs.of_get (by simp [hr.length]) fun j u v hu hv => ?_
  by_cases hij : i = j
  · subst hij
    rw [List.getElem?_set] at hu hv
    simp only [if_true] at hu hv
    split at hu
    · split at hv
      · injection hu with hu
        injection hv with hv
        rw [← hu, ← hv]
        exact hxy
      · cases hv
    · cases hu
  · rw [List.getElem?_set_ne hij] at hu hv
    obtain ⟨v', hv', hr'⟩ := hr.get hu
    rw [hv] at hv'
    injection hv' with hv'
    rw [hv']
    exact hr'

theorem cells_rel {u : V} {v : Value} (hr : RelV ι h u v) (hu : u ≠ .undef) : RelVs ι h u.cells v.cells.toList := by
  cases u <;> simp only [RelV] at hr
  all_goals (first | (subst hr; simp [V.cells, Value.cells, RelVs, RelV]; done) | skip)
  · obtain ⟨a, b, c, rfl⟩ := hr
    simp [V.cells, Value.cells, RelVs, RelV]
    exact ⟨a, b, c⟩
  · obtain ⟨a, cap, rfl, r⟩ := hr
    simp [V.cells, Value.cells, RelVs, RelV]
    exact ⟨a, cap, ⟨rfl, rfl⟩, r⟩
  · obtain ⟨x, y, rfl, r⟩ := hr
    simp [V.cells, Value.cells, RelVs, RelV]
    exact ⟨x, y, ⟨rfl, rfl⟩, r⟩
  · obtain ⟨c, rfl, r⟩ := hr
    exact r
  · rcases hr with rfl | ⟨c, rfl, r⟩
    · exact absurd rfl hu
    · simp [V.cells, Value.cells, RelVs, RelV]
      exact .inr r
  · obtain ⟨y, rfl, r⟩ := hr
    simp [V.cells, Value.cells, RelVs, RelV]
    exact r

/-! ### Parts and fills -/
theorem splice_rel {l us : List V} {m vs : List Value} (hl : RelVs ι h l m) (hv : RelVs ι h us vs) (o : Nat) : RelVs ι h (splice l o us) (m.take o ++ vs ++ m.drop (o + vs.length)) := by
  unfold splice
  rw [hv.length]
  exact ((hl.take o).append hv).append (hl.drop _)

theorem fold_splice (off : Nat) : ∀ (vs : List Value) (k : Nat) (cs : Array Value), off + k + vs.length ≤ cs.size →
    ((vs.zipIdx k).foldl (fun cs (p : Value × Nat) => cs.setIfInBounds (off + p.2) p.1) cs).toList = cs.toList.take (off + k) ++ vs ++ cs.toList.drop (off + k + vs.length)
  | [], k, cs, _ => by simp
  | v :: r, k, cs, hl => by
    simp only [List.length_cons] at hl
    simp only [List.zipIdx_cons, List.foldl_cons]
    rw [fold_splice off r (k + 1) _ (by simp; omega)]
    apply List.ext_getElem?
    intro j
    simp only [List.length_cons, Array.toList_setIfInBounds]
    have e1 : min (off + (k + 1)) cs.size = off + k + 1 := by omega
    have e2 : min (off + k) cs.size = off + k := by omega
    rcases Nat.lt_trichotomy j (off + k) with h1 | h1 | h1
    · rw [List.append_assoc, List.getElem?_append_left (by simp; omega), List.append_assoc, List.getElem?_append_left (by simp; omega), List.getElem?_take, List.getElem?_take, if_pos (by omega), if_pos h1, List.getElem?_set_ne (by omega)]
    · subst h1
      rw [List.append_assoc, List.getElem?_append_left (by simp; omega), List.append_assoc, List.getElem?_append_right (by simp; omega), List.getElem?_take, if_pos (by omega), List.getElem?_set_self (by simp; omega)]
      simp [e2]
    · by_cases h2 : j < off + k + 1 + r.length
      · rw [List.append_assoc, List.getElem?_append_right (by simp; omega), List.getElem?_append_left (by simp; omega), List.append_assoc, List.getElem?_append_right (by simp; omega)]
        simp only [List.length_take, List.length_set, Array.length_toList, e1, e2, List.cons_append]
        rw [show j - (off + k) = j - (off + k + 1) + 1 by omega, List.getElem?_cons_succ, List.getElem?_append_left (by omega)]
      · rw [List.getElem?_append_right (by simp; omega), List.getElem?_append_right (by simp; omega), List.getElem?_drop, List.getElem?_drop, List.getElem?_set_ne (by simp; omega)]
        simp only [List.length_append, List.length_take, List.length_set, Array.length_toList, e1, e2, List.length_cons]
        congr 1
        omega

theorem fill_step {place : Nat → Option (Nat × Nat)} {cells : Array Value} {i : Nat} {v : Value} {r : List (Nat × Value)} {o n : Nat} (hp : place i = some (o, n)) (h1 : v.cells.size = n) (h2 : o + n ≤ cells.size) :
    Instr.fill place cells ((i, v) :: r) = Instr.fill place (cells.toList.take o ++ v.cells.toList ++ cells.toList.drop (o + v.cells.size)).toArray r := by
  simp only [Instr.fill, hp]
  rw [if_neg (by simp; omega)]
  congr 1
  apply Array.toList_inj.1
  have := fold_splice o v.cells.toList 0 cells (by simp; omega)
  simp only [Nat.add_zero, Array.length_toList] at this
  rw [← this]
  rw [← Array.foldl_toList]
  congr 1
  simp

theorem fillF_rel {fs : List (Nat × Nat × Bool)} {place : Nat → Option (Nat × Nat)} (hpl : ∀ i o n g, fs[i]? = some (o, n, g) → place i = some (o, n) ∧ n ≠ 0) :
    ∀ {parts : List (Nat × V)} {parts' : List (Nat × Value)} {cells res : List V} {cells' : Array Value}, pureOp.fillF fs cells parts = some res → RelVs ι h cells cells'.toList →
      parts.map (·.1) = parts'.map (·.1) → RelVs ι h (parts.map (·.2)) (parts'.map (·.2)) → (∀ p ∈ parts, p.2 ≠ .undef) → ∃ res' : Array Value, Instr.fill place cells' parts' = some res' ∧ RelVs ι h res res'.toList
  | [], [], cells, res, cells', hf, hc, _, _, _ => by
    simp only [pureOp.fillF] at hf
    injection hf with hf
    subst hf
    exact ⟨cells', rfl, hc⟩
  | (i, v) :: r, (i', v') :: r', cells, res, cells', hf, hc, hi, hv, hu => by
    simp only [List.map_cons, List.cons.injEq] at hi
    obtain ⟨rfl, hi⟩ := hi
    simp only [List.map_cons, RelVs] at hv
    simp only [pureOp.fillF] at hf
    split at hf
    · rename_i o n g hfs
      split at hf
      · rename_i hcond
        have hcr := cells_rel hv.1 (hu (i, v) (by simp))
        obtain ⟨hp, _⟩ := hpl i o n g hfs
        have hsz : v'.cells.size = n := by rw [← Array.length_toList, ← hcr.length]; exact hcond.1
        have hcs : cells.length = cells'.size := by rw [hc.length, Array.length_toList]
        have := fillF_rel hpl (cells' := (cells'.toList.take o ++ v'.cells.toList ++ cells'.toList.drop (o + v'.cells.size)).toArray) hf (by
          have := splice_rel hc hcr o
          simpa using this) hi hv.2 (fun p hp => hu p (by simp [hp]))
        obtain ⟨res', h1, h2⟩ := this
        exact ⟨res', by rw [fill_step hp hsz (by have := hcond.2; omega)]; exact h1, h2⟩
      · cases hf
    · cases hf
  | [], _ :: _, _, _, _, _, _, hi, _, _ => by simp at hi
  | _ :: _, [], _, _, _, _, _, hi, _, _ => by simp at hi

theorem fillA_rel {n esz : Nat} :
    ∀ {parts : List (Nat × V)} {parts' : List (Nat × Value)} {cells res : List V} {cells' : Array Value}, pureOp.fillA n esz cells parts = some res → RelVs ι h cells cells'.toList →
      parts.map (·.1) = parts'.map (·.1) → RelVs ι h (parts.map (·.2)) (parts'.map (·.2)) → (∀ p ∈ parts, p.2 ≠ .undef) → ∃ res' : Array Value, Instr.fill (fun i => some (i * esz, esz)) cells' parts' = some res' ∧ RelVs ι h res res'.toList
  | [], [], cells, res, cells', hf, hc, _, _, _ => by
    simp only [pureOp.fillA] at hf
    injection hf with hf
    subst hf
    exact ⟨cells', rfl, hc⟩
  | (i, v) :: r, (i', v') :: r', cells, res, cells', hf, hc, hi, hv, hu => by
    simp only [List.map_cons, List.cons.injEq] at hi
    obtain ⟨rfl, hi⟩ := hi
    simp only [List.map_cons, RelVs] at hv
    simp only [pureOp.fillA] at hf
    split at hf
    · rename_i hcond
      have hcr := cells_rel hv.1 (hu (i, v) (by simp))
      have hsz : v'.cells.size = esz := by rw [← Array.length_toList, ← hcr.length]; exact hcond.1
      have hcs : cells.length = cells'.size := by rw [hc.length, Array.length_toList]
      have := fillA_rel (cells' := (cells'.toList.take (i * esz) ++ v'.cells.toList ++ cells'.toList.drop (i * esz + v'.cells.size)).toArray) hf (by
        have := splice_rel hc hcr (i * esz)
        simpa using this) hi hv.2 (fun p hp => hu p (by simp [hp]))
      obtain ⟨res', h1, h2⟩ := this
      exact ⟨res', by rw [fill_step (place := fun i => some (i * esz, esz)) rfl hsz (by have := hcond.2; omega)]; exact h1, h2⟩
    · cases hf
  | [], _ :: _, _, _, _, _, _, hi, _, _ => by simp at hi
  | _ :: _, [], _, _, _, _, _, hi, _, _ => by simp at hi

theorem partOf_rel {l : List V} {c : Array Value} {o n : Nat} {g : Bool} {v : V} {t : TypeId} {i : TypeInfo} {u : TypeDesc} (hp : pureOp.partOf l o n g = some v) (hr : RelVs ι h l c.toList)
    (hi : P.info? t = some i) (hu : P.underlying t = some u) (hn : i.size = n) (hg : aggD u = g) : ∃ v', (part t c o).run P w = .ok v' w ∧ RelV ι h v v' := by
  unfold pureOp.partOf at hp
  unfold part
  simp only [Sem.run_bind, r_agg hu, hg, Result.andThen_ok]
  have hlen := hr.length
  rw [Array.length_toList] at hlen
  split at hp
  · rename_i hle
    cases g
    · simp only [cond_false] at hp
      obtain ⟨v', h1, h2⟩ := hr.get hp
      simp at h1
      simp only [Bool.false_eq_true, if_false, h1]
      exact ⟨v', rfl, h2⟩
    · simp only [cond_true] at hp
      injection hp with hp
      subst hp
      simp only [if_true, Sem.run_bind, r_size hi, Result.andThen_ok, hn, Sem.run_pure]
      refine ⟨_, rfl, ?_⟩
      simp only [RelV]
      refine ⟨_, rfl, ?_⟩
      have := (hr.drop o).take n
      simpa [Array.toList_extract, List.extract_eq_take_drop] using this
  · cases hp
end

end Go.Hl
end
section
/-! Hl: operations without memory are the program's (2). -/
namespace Go.Hl
open Go.RowKit

theorem bool_of {ι : Map} {h : H} {u : V} {v : Value} {b : Bool} (hr : RelV ι h u v) (hu : u = .bool b) : v = .bool b := by subst hu; simpa [RelV] using hr
theorem int_of {ι : Map} {h : H} {u : V} {v : Value} {k : IntKind} {n : Int} (hr : RelV ι h u v) (hu : u = .int k n) : v = .int k n := by subst hu; simpa [RelV] using hr
theorem str_of {ι : Map} {h : H} {u : V} {v : Value} {s : List UInt8} (hr : RelV ι h u v) (hu : u = .str s) : v = .string ⟨s.toArray⟩ := by subst hu; simpa [RelV] using hr

theorem ba_append (x y : List UInt8) : (⟨x.toArray⟩ : ByteArray) ++ ⟨y.toArray⟩ = ⟨(x ++ y).toArray⟩ := by
  apply ByteArray.ext
  simp
theorem ba_toList (x : List UInt8) : (⟨x.toArray⟩ : ByteArray).toList = x := by
  rw [Lib.toList_data]
theorem ba_size (x : List UInt8) : (⟨x.toArray⟩ : ByteArray).size = x.length := by simp [ByteArray.size]
theorem ba_extract (x : List UInt8) (l h : Nat) : (⟨x.toArray⟩ : ByteArray).extract l h = ⟨((x.take h).drop l).toArray⟩ := by
  apply ByteArray.ext
  simp [List.extract_eq_take_drop, List.drop_take]

section
variable {P : Program} {ι : Map} {h : H} {w : World}

theorem strOp_rel {op : BinOp} {x y : List UInt8} {v : V} (hv : strOp op x y = some v) : ∃ v', (Op.stringOp op ⟨x.toArray⟩ ⟨y.toArray⟩).run P w = .ok v' w ∧ RelV ι h v v' := by
  unfold strOp strLt at hv
  unfold Op.stringOp
  simp only [ba_toList, ba_size, ba_append]
  cases op <;> simp only at hv ⊢
  case add =>
    split at hv
    · rename_i hl
      injection hv with hv
      subst hv
      rw [if_neg (by show ¬ (_ > IntKind.i64.max); have : IntKind.i64.max = 9223372036854775807 := rfl; rw [this]; omega)]
      exact ⟨_, rfl, by simp [RelV]⟩
    · cases hv
  all_goals first | cases hv; done | (injection hv with hv; subst hv; exact ⟨_, rfl, by simp [RelV]⟩)

theorem intOp_rel {op : BinOp} {k : IntKind} {x y : Int} {v : V} (hv : intOp op k x y = some v) (t : TypeId) : ∃ v', (binOp op t (.int k x) (.int k y)).run P w = .ok v' w ∧ RelV ι h v v' := by
  unfold intOp bitsOp at hv
  cases op <;> simp only [Option.map_some] at hv <;> simp [binOp, Op.intArith, Op.intDiv, Op.intBits, Op.intCmp]
  case quo | rem =>
    split at hv
    · cases hv
    · rename_i hy
      injection hv with hv
      subst hv
      simp [hy, RelV]
  all_goals first | (cases hv; done) | (injection hv with hv; subst hv; simp [RelV])

theorem shiftOp_rel {op : BinOp} {k k' : IntKind} {x y : Int} {v : V} (hop : op = .shl ∨ op = .shr) (hv : shiftOp op k x y = some v) (t : TypeId) : ∃ v', (binOp op t (.int k x) (.int k' y)).run P w = .ok v' w ∧ RelV ι h v v' := by
  unfold shiftOp at hv
  rcases hop with rfl | rfl <;> simp only at hv <;> simp only [binOp, Op.shift]
  all_goals
    split at hv
    · cases hv
    · rename_i hy
      injection hv with hv
      subst hv
      rw [if_neg hy]
      exact ⟨_, rfl, by simp [RelV]⟩

/-! ### '==' of structs -/
theorem cellsEq_cons {u : V} {l : List V} {y : V} {m : List V} {r : Bool} (hc : cellsEq (u :: l) (y :: m) = some r) : ∃ a b, cellsEq [u] [y] = some a ∧ cellsEq l m = some b ∧ r = (a && b) := by
  cases u <;> cases y <;> simp only [cellsEq] at hc ⊢ <;> try (cases hc; done)
  all_goals first
    | (split at hc
       · rename_i hk
         cases hb : cellsEq l m with
         | none => simp [hb] at hc
         | some b =>
           simp only [hb, Option.map_some, Option.some.injEq] at hc
           rw [if_pos hk]
           exact ⟨_, b, rfl, rfl, by rw [← hc]; simp⟩
       · cases hc)
    | (cases hb : cellsEq l m with
       | none => simp [hb] at hc
       | some b =>
         simp only [hb, Option.map_some, Option.some.injEq] at hc
         exact ⟨_, b, rfl, rfl, by rw [← hc]; simp⟩)

theorem cellsEq_append : ∀ {l l' m m' : List V} {r : Bool}, l.length = m.length → cellsEq (l ++ l') (m ++ m') = some r → ∃ a b, cellsEq l m = some a ∧ cellsEq l' m' = some b ∧ r = (a && b)
  | [], l', [], m', r, _, hc => ⟨true, r, rfl, by simpa using hc, by simp⟩
  | u :: l, l', y :: m, m', r, hl, hc => by
    rw [List.cons_append, List.cons_append] at hc
    obtain ⟨a, b, h1, h2, rfl⟩ := cellsEq_cons hc
    obtain ⟨a', b', h3, h4, rfl⟩ := cellsEq_append (by simpa using hl) h2
    refine ⟨a && a', b', ?_, h4, by simp [Bool.and_assoc]⟩
    cases u <;> cases y <;> simp only [cellsEq] at h1 ⊢ <;> try (cases h1; done)
    all_goals first
      | (split at h1
         · rename_i hk
           rw [if_pos hk, h3]
           simp only [Option.map_some, Option.some.injEq] at h1 ⊢
           rw [← h1]
           simp
         · cases h1)
      | (rw [h3]
         simp only [Option.map_some, Option.some.injEq] at h1 ⊢
         rw [← h1]
         simp)
  | [], _, _ :: _, _, _, hl, _ => by simp at hl
  | _ :: _, _, [], _, _, hl, _ => by simp at hl

theorem one_cell {l : List V} {m : List V} {r : Bool} (h1 : l.length = 1) (h2 : m.length = 1) (hc : cellsEq l m = some r) : ∃ u y, l = [u] ∧ m = [y] ∧ cellsEq [u] [y] = some r := by
  match l, m, h1, h2 with
  | [u], [y], _, _ => exact ⟨u, y, rfl, rfl, hc⟩
end

end Go.Hl
end
section
/-! Hl: operations without memory are the program's (3): '=='. -/
namespace Go.Hl
open Go.RowKit

section
variable {P : Program} {ι : Map} {h : H} {w : World}

/-- A value of a type, by its cells. -/
def ValOf (ι : Map) (h : H) (u : TypeDesc) (us : List V) (x : Value) : Prop :=
  (aggD u = true ∧ ∃ c, x = .agg c ∧ RelVs ι h us c.toList) ∨ (aggD u = false ∧ ∃ a, us = [a] ∧ RelV ι h a x)

theorem part_val {us : List V} {c : Array Value} {o : Nat} {t : TypeId} {i : TypeInfo} {u : TypeDesc} (hr : RelVs ι h us c.toList) (hi : P.info? t = some i) (hu : P.underlying t = some u) (hsc : aggD u = false → i.size = 1)
    (hle : o + i.size ≤ us.length) : ∃ x, (part t c o).run P w = .ok x w ∧ ValOf ι h u ((us.drop o).take i.size) x := by
  cases hg : aggD u with
  | true =>
    have hp : pureOp.partOf us o i.size true = some (.agg ((us.drop o).take i.size)) := by simp [pureOp.partOf, hle]
    obtain ⟨v', h1, h2⟩ := partOf_rel (w := w) hp hr hi hu rfl hg
    simp only [RelV] at h2
    obtain ⟨c', rfl, h2⟩ := h2
    exact ⟨_, h1, .inl ⟨hg, c', rfl, h2⟩⟩
  | false =>
    have h1 := hsc hg
    have hlt : o < us.length := by omega
    have hp : pureOp.partOf us o i.size false = some us[o] := by simp [pureOp.partOf, hle, hlt]
    obtain ⟨v', h2, h3⟩ := partOf_rel (w := w) hp hr hi hu rfl hg
    refine ⟨_, h2, .inr ⟨hg, us[o], ?_, h3⟩⟩
    rw [h1, List.drop_eq_getElem_cons hlt]
    rfl

theorem fits_length : ∀ {sh : List Leaf} {l : List V}, fits sh l = true → sh.length = l.length
  | [], [], _ => rfl
  | a :: sh, v :: l, hf => by
    cases a <;> cases v <;> simp only [fits, Bool.false_eq_true] at hf
    all_goals simp [fits_length hf]
  | [], _ :: _, hf => by simp [fits] at hf
  | a :: _, [], hf => by cases a <;> simp [fits] at hf
theorem fits_append : ∀ {s r : List Leaf} {l : List V}, fits (s ++ r) l = true → fits s (l.take s.length) = true ∧ fits r (l.drop s.length) = true
  | [], r, l, hf => by simpa [fits] using hf
  | a :: s, r, v :: l, hf => by
    rw [List.cons_append] at hf
    cases a <;> cases v <;> simp only [fits, Bool.false_eq_true] at hf
    all_goals
      obtain ⟨h1, h2⟩ := fits_append hf
      exact ⟨by simpa [fits] using h1, by simpa using h2⟩
  | a :: _, _, [], hf => by cases a <;> simp [fits] at hf

theorem flatSh_info {d : Nat} {t : TypeId} {sh : List Leaf} (hf : flatSh P d t = some sh) : ∃ i u, P.info? t = some i ∧ P.underlying t = some u ∧ sh.length = i.size ∧ (aggD u = false → i.size = 1) := by
  cases d with
  | zero => simp [flatSh] at hf
  | succ d =>
    unfold flatSh at hf
    split at hf
    all_goals first
      | (rename_i h1 h2
         split at hf
         · rename_i hs
           injection hf with hf
           subst hf
           exact ⟨_, _, h1, h2, by simpa using hs.symm, fun _ => hs⟩
         · cases hf)
      | (rename_i h1 h2
         split at hf
         · cases hf
         · split at hf
           · split at hf
             · rename_i hs
               injection hf with hf
               subst hf
               exact ⟨_, _, h1, h2, hs, fun hg => by simp [aggD] at hg⟩
             · cases hf
           · cases hf)
      | (rename_i h1 h2
         split at hf
         · split at hf
           · rename_i hs
             injection hf with hf
             subst hf
             exact ⟨_, _, h1, h2, by simp [hs.1], fun hg => by simp [aggD] at hg⟩
           · cases hf
         · cases hf)
      | cases hf
/-- Arrays, element by element. -/
def eqItems (d : Nat) (e : TypeId) (n : Nat) (xs ys : Array Value) : List Nat → Sem Bool
  | [] => pure true
  | i :: l => do
    let a ← Go.part e xs (i * n)
    let b ← Go.part e ys (i * n)
    let r ← Op.equalIn d e a b
    if (!r) = true then pure false else eqItems d e n xs ys l
theorem run_equalIn_array (d : Nat) (t e : TypeId) (n sz : Nat) (xs ys : Array Value) (ht : P.underlying t = some (.array n e)) (hs : (sizeOf e).run P w = .ok sz w) :
    (Op.equalIn (d + 1) t (.agg xs) (.agg ys)).run P w = (eqItems d e sz xs ys (List.range' 0 n)).run P w := by
  simp only [Op.equalIn, Sem.run_bind, run_underlying ht, Result.andThen_ok, hs, Std.Legacy.Range.forIn_eq_forIn_range', Std.Legacy.Range.size, Nat.sub_zero, Nat.add_sub_cancel, Nat.div_one]
  generalize List.range' 0 n = l
  clear ht hs
  induction l generalizing w with
  | nil => simp [eqItems]
  | cons i l ih =>
    simp only [List.forIn_cons, eqItems, Sem.run_bind, Sem.run_ite]
    generalize (Go.part e xs (i * sz)).run P w = r1
    cases r1 with
    | ok a w1 =>
      simp only [Result.andThen_ok]
      generalize (Go.part e ys (i * sz)).run P w1 = r2
      cases r2 with
      | ok b w2 =>
        simp only [Result.andThen_ok]
        generalize (Op.equalIn d e a b).run P w2 = r3
        cases r3 with
        | ok r w3 =>
          cases r
          · simp only [Result.andThen_ok, Bool.not_false, if_true, Sem.run_pure]
          · simp only [Result.andThen_ok, Bool.not_true, Bool.false_eq_true, if_false, Sem.run_pure]
            exact ih
        | halt x w3 => simp [Result.andThen]
      | halt x w2 => simp [Result.andThen]
    | halt x w1 => simp [Result.andThen]

theorem equalIn_ok : ∀ (d D : Nat) (t : TypeId) (sh : List Leaf), d ≤ D → flatSh P d t = some sh → ∀ {u : TypeDesc} {us ms : List V} {x y : Value} {r : Bool}, P.underlying t = some u →
    fits sh us = true → fits sh ms = true → ValOf ι h u us x → ValOf ι h u ms y → cellsEq us ms = some r → (Op.equalIn D t x y).run P w = .ok r w
  | 0, _, _, _, _, hf, _, _, _, _, _, _, _, _, _, _, _, _ => by simp [flatSh] at hf
  | d + 1, 0, _, _, hd, _, _, _, _, _, _, _, _, _, _, _, _, _ => by omega
  | d + 1, D + 1, t, sh, hd, hf, u, us, ms, x, y, r, hu, hfu, hfm, hx, hy, hc => by
    unfold flatSh at hf
    rw [hu] at hf
    split at hf
    case h_6 => cases hf
    case h_5 _ _ n e hi hu' =>
      injection hu' with hu'
      subst hu'
      split at hf
      · rename_i s hs
        split at hf
        · rename_i hlen
          injection hf with hf
          subst hf
          rcases hx with ⟨_, c, rfl, hcx⟩ | ⟨hg, _⟩
          case inr => simp [aggD] at hg
          rcases hy with ⟨_, c', rfl, hcy⟩ | ⟨hg, _⟩
          case inr => simp [aggD] at hg
          obtain ⟨ei, eu, hei, heu, hsl, hsc⟩ := flatSh_info hs
          rw [run_equalIn_array D t e n s.length c c' hu (by rw [r_size hei, hsl])]
          have key : ∀ (k i : Nat) (r : Bool), fits (List.replicate k s).flatten (us.drop (i * s.length)) = true → fits (List.replicate k s).flatten (ms.drop (i * s.length)) = true → cellsEq (us.drop (i * s.length)) (ms.drop (i * s.length)) = some r → (eqItems D e s.length c c' (List.range' i k)).run P w = .ok r w := by
            intro k
            induction k with
            | zero =>
              intro i r h1 h2 h3
              have e1 := fits_length h1
              have e2 := fits_length h2
              rw [List.length_eq_zero_iff.1 e1.symm, List.length_eq_zero_iff.1 e2.symm] at h3
              simp only [cellsEq, Option.some.injEq] at h3
              subst h3
              simp [eqItems]
            | succ k ihk =>
              intro i r h1 h2 h3
              rw [List.replicate_succ, List.flatten_cons] at h1 h2
              obtain ⟨a1, a2⟩ := fits_append h1
              obtain ⟨b1, b2⟩ := fits_append h2
              have l1 := fits_length a1
              have l2 := fits_length b1
              have l3 := fits_length h1
              have l4 := fits_length h2
              simp only [List.length_take, List.length_drop, List.length_append] at l1 l2 l3 l4
              have hz := hlen.2
              · obtain ⟨x1, hx1, hx2⟩ := part_val (w := w) (o := i * s.length) hcx hei heu hsc (by rw [← hsl]; omega)
                obtain ⟨y1, hy1, hy2⟩ := part_val (w := w) (o := i * s.length) hcy hei heu hsc (by rw [← hsl]; omega)
                rw [← List.take_append_drop s.length (us.drop (i * s.length)), ← List.take_append_drop s.length (ms.drop (i * s.length))] at h3
                obtain ⟨ra, rb, h4, h5, rfl⟩ := cellsEq_append (by simp; omega) h3
                rw [← hsl] at hx2 hy2
                have he := equalIn_ok d D e s (by omega) hs heu a1 b1 hx2 hy2 h4
                have hi1 : i * s.length + s.length = (i + 1) * s.length := by rw [Nat.add_mul, Nat.one_mul]
                simp only [List.drop_drop, hi1] at h5 a2 b2
                have hrest := ihk (i + 1) rb a2 b2 h5
                rw [List.range'_succ, eqItems]
                simp only [Sem.run_bind, hx1, hy1, he, Result.andThen_ok]
                cases ra
                · simp
                · simpa using hrest
          exact key n 0 r (by simpa using hfu) (by simpa using hfm) (by simpa using hc)
        · cases hf
      · cases hf
    case h_4 _ _ fs hi hu' =>
      injection hu' with hu'
      subst hu'
      split at hf
      · cases hf
      · rename_i hst
        split at hf
        · rename_i l hl
          split at hf
          · rename_i hlen
            injection hf with hf
            subst hf
            have hst' : P.stoodInHeld t = false := by simpa using hst
            rcases hx with ⟨_, c, rfl, hcx⟩ | ⟨hg, _⟩
            case inr => simp [aggD] at hg
            rcases hy with ⟨_, c', rfl, hcy⟩ | ⟨hg, _⟩
            case inr => simp [aggD] at hg
            have hfo : P.fieldsOf t = fs := by simp [Program.fieldsOf, hu]
            rw [run_equalIn_struct w D t c c' (by rw [hfo]; exact hu) hst', hfo]
            have key : ∀ (F : List Field) (n : Nat) (l : List Leaf) (r : Bool), flatSh.flatFs P d F n = some l → fits l (us.drop n) = true → fits l (ms.drop n) = true → cellsEq (us.drop n) (ms.drop n) = some r → n ≤ us.length → n ≤ ms.length →
                (Op.eqFields D c c' F).run P w = .ok r w := by
              intro F
              induction F with
              | nil =>
                intro n l r hF h1 h2 h3 _ _
                simp only [flatSh.flatFs, Option.some.injEq] at hF
                subst hF
                have e1 := fits_length h1
                have e2 := fits_length h2
                rw [List.length_eq_zero_iff.1 e1.symm, List.length_eq_zero_iff.1 e2.symm] at h3
                simp only [cellsEq, Option.some.injEq] at h3
                subst h3
                simp [Op.eqFields]
              | cons f F ihF =>
                intro n l r hF h1 h2 h3 hn1 hn2
                simp only [flatSh.flatFs] at hF
                split at hF
                · rename_i hcond
                  split at hF
                  · rename_i s hs
                    cases hr : flatSh.flatFs P d F (n + s.length) with
                    | none => simp [hr] at hF
                    | some rest =>
                      simp only [hr, Option.map_some, Option.some.injEq] at hF
                      subst hF
                      obtain ⟨fi, fu, hfi, hfu', hsl, hsc⟩ := flatSh_info hs
                      obtain ⟨a1, a2⟩ := fits_append h1
                      obtain ⟨b1, b2⟩ := fits_append h2
                      have l1 := fits_length a1
                      have l2 := fits_length b1
                      simp only [List.length_take, List.length_drop] at l1 l2
                      have hx1 := part_val (w := w) (o := n) hcx hfi hfu' hsc (by rw [← hsl]; have := fits_length h1; simp at this; omega)
                      have hy1 := part_val (w := w) (o := n) hcy hfi hfu' hsc (by rw [← hsl]; have := fits_length h2; simp at this; omega)
                      obtain ⟨x1, hx1, hx2⟩ := hx1
                      obtain ⟨y1, hy1, hy2⟩ := hy1
                      rw [← List.take_append_drop s.length (us.drop n), ← List.take_append_drop s.length (ms.drop n)] at h3
                      obtain ⟨ra, rb, h4, h5, rfl⟩ := cellsEq_append (by simp; omega) h3
                      rw [← hsl] at hx2 hy2
                      have he := equalIn_ok d D f.type s (by omega) hs hfu' a1 b1 hx2 hy2 h4
                      simp only [List.drop_drop] at h5 a2 b2
                      have hrest := ihF (n + s.length) rest rb hr a2 b2 h5 (by omega) (by omega)
                      rw [Op.eqFields, if_pos hcond.1]
                      rw [← hcond.2] at hx1 hy1
                      simp only [Sem.run_bind, hx1, hy1, he, Result.andThen_ok]
                      cases ra
                      · simp
                      · simpa using hrest
                  · cases hF
                · cases hF
            exact key fs.toList 0 l r hl (by simpa using hfu) (by simpa using hfm) (by simpa using hc) (Nat.zero_le _) (Nat.zero_le _)
          · cases hf
        · cases hf
    all_goals
      rename_i hi hu'
      injection hu' with hu'
      subst hu'
      split at hf
      · injection hf with hf
        subst hf
        rcases hx with ⟨hg, _⟩ | ⟨_, a, rfl, hxa⟩
        · simp [aggD] at hg
        rcases hy with ⟨hg, _⟩ | ⟨_, b, rfl, hyb⟩
        · simp [aggD] at hg
        cases a <;> simp only [fits, Bool.false_eq_true] at hfu
        cases b <;> simp only [fits, Bool.false_eq_true] at hfm
        simp only [RelV] at hxa hyb
        subst hxa hyb
        simp only [cellsEq, Option.map_some, Bool.and_true, Option.some.injEq] at hc
        first
          | (subst hc; simp [Op.equalIn, run_underlying hu]; done)
          | (split at hc
             · rename_i hk
               subst hk
               injection hc with hc
               subst hc
               simp [Op.equalIn, run_underlying hu]
             · cases hc)
          | (subst hc
             simp only [Op.equalIn, Sem.run_bind, run_underlying hu, Result.andThen_ok, Sem.run_pure]
             congr 1
             rw [beq_toListBytes, ba_toList, ba_toList])
      · cases hf
end

end Go.Hl
end
section
/-! Hl: operations without memory are the program's (4). -/
namespace Go.Hl
open Go.RowKit

section
variable {P : Program} {ι : Map} {h : H} {w : World}

theorem eqOp_rel {t : TypeId} {x y : V} {x' y' : Value} {b : Bool} (he : eqOp P t x y = some b) (hx : RelV ι h x x') (hy : RelV ι h y y') : (Op.equal t x' y').run P w = .ok b w := by
  unfold eqOp at he
  unfold Op.equal Op.maxDepth
  obtain ⟨D, hD, hD'⟩ : ∃ D, 10000 = D + 1 ∧ 100 ≤ D + 1 := ⟨9999, rfl, by omega⟩
  rw [hD]
  cases hu : P.underlying t with
  | none => rw [hu] at he; simp at he
  | some u =>
    rw [hu] at he
    split at he
    case h_8 _ _ _ fs l m hu' =>
      split at he
      · rename_i sh hs
        split at he
        · rename_i hc
          simp only [Bool.and_eq_true] at hc
          simp only [RelV] at hx hy
          obtain ⟨c, rfl, hx⟩ := hx
          obtain ⟨c', rfl, hy⟩ := hy
          injection hu' with hu'
          subst hu'
          exact equalIn_ok 100 (D + 1) t sh hD' hs hu hc.1.1 hc.1.2 (.inl ⟨rfl, c, rfl, hx⟩) (.inl ⟨rfl, c', rfl, hy⟩) he
        · cases he
      · cases he
    case h_9 => cases he
    all_goals
      rename_i hu'
      injection hu' with hu'
      subst hu'
      simp only [RelV] at hx hy
      injection he with he
      subst he
      first
        | (subst hx hy; simp [Op.equalIn, run_underlying hu]; done)
        | (subst hx; obtain ⟨_, _, _, rfl⟩ := hy; simp [Op.equalIn, run_underlying hu]; done)
        | (subst hy; obtain ⟨_, _, _, rfl⟩ := hx; simp [Op.equalIn, run_underlying hu]; done)
        | (subst hx; obtain ⟨_, _, rfl, _⟩ := hy; simp [Op.equalIn, run_underlying hu]; done)
        | (subst hy; obtain ⟨_, _, rfl, _⟩ := hx; simp [Op.equalIn, run_underlying hu]; done)

theorem guard_plain {op : BinOp} {t : TypeId} {x y : Operand} {a b : Value} (h1 : ¬ (a = .nilIface ∧ b = .nilIface)) (h2 : ∀ c d, a = .agg c → b = .agg d → P.eqGuardType P.depth t = false) :
    (eqGuard op t x y a b).run P w = .ok () w := by
  unfold eqGuard
  split
  case h_3 => rfl
  all_goals
    rw [if_neg (by decide)]
    split
    · exact absurd ⟨rfl, rfl⟩ h1
    · rename_i c d
      simp [h2 c d rfl rfl]
    · rfl

theorem binV_rel {op : BinOp} {t : TypeId} {x y : Operand} {a b : V} {a' b' : Value} {v : V} (hv : binV P op t a b = some v) (ha : RelV ι h a a') (hb : RelV ι h b b') :
    ∃ v', (do eqGuard op t x y a' b'; binOp op t a' b' : Sem Value).run P w = .ok v' w ∧ RelV ι h v v' := by
  unfold binV at hv
  split at hv
  · rename_i k m k' n
    simp only [RelV] at ha hb
    subst ha hb
    simp only [Sem.run_bind]
    rw [guard_plain (by simp) (by simp)]
    simp only [Result.andThen_ok]
    split at hv
    · exact shiftOp_rel (.inl rfl) hv t
    · exact shiftOp_rel (.inr rfl) hv t
    · split at hv
      · rename_i hk
        subst hk
        exact intOp_rel hv t
      · cases hv
  · rename_i s u
    simp only [RelV] at ha hb
    subst ha hb
    simp only [Sem.run_bind]
    rw [guard_plain (by simp) (by simp)]
    simp only [Result.andThen_ok]
    have : (binOp op t (.string ⟨s.toArray⟩) (.string ⟨u.toArray⟩)) = Op.stringOp op ⟨s.toArray⟩ ⟨u.toArray⟩ := by
      cases op <;> rfl
    rw [this]
    exact strOp_rel hv
  · rename_i hni hns
    have hg : ∀ {r : Bool}, eqOp P t a b = some r → (eqGuard op t x y a' b').run P w = .ok () w := fun {r} he => by
      refine guard_plain ?_ ?_
      · rintro ⟨rfl, rfl⟩
        unfold eqOp at he
        split at he <;> simp_all [RelV]
      · rintro c d rfl rfl
        unfold eqOp at he
        split at he
        case h_8 =>
          split at he
          · split at he
            · rename_i hc
              simp only [Bool.and_eq_true, Bool.not_eq_true'] at hc
              exact hc.2
            · cases he
          · cases he
        all_goals simp_all [RelV]
    have hbin : ∀ {op' : BinOp}, op' = .eql ∨ op' = .neq → ∀ {r : Bool}, eqOp P t a b = some r → binOp op' t a' b' = (if op' = .eql then (do pure (.bool (← Op.equal t a' b')) : Sem Value) else (do pure (.bool (!(← Op.equal t a' b'))) : Sem Value)) := fun {op'} ho {r} he => by
      unfold eqOp at he
      rcases ho with rfl | rfl <;> split at he
      all_goals first
        | (cases he; done)
        | (simp only [RelV] at ha hb
           first
             | (subst ha hb; rfl)
             | (subst ha; obtain ⟨_, _, _, rfl⟩ := hb; rfl)
             | (subst hb; obtain ⟨_, _, _, rfl⟩ := ha; rfl)
             | (subst ha; obtain ⟨_, _, rfl, _⟩ := hb; rfl)
             | (subst hb; obtain ⟨_, _, rfl, _⟩ := ha; rfl)
             | (obtain ⟨_, rfl, _⟩ := ha; obtain ⟨_, rfl, _⟩ := hb; rfl))
    split at hv
    · cases he : eqOp P t a b with
      | none => rw [he] at hv; cases hv
      | some r =>
        rw [he] at hv
        injection hv with hv
        subst hv
        simp only [Sem.run_bind, hg he, Result.andThen_ok]
        rw [hbin (.inl rfl) he, if_pos rfl]
        simp only [Sem.run_bind, eqOp_rel he ha hb, Result.andThen_ok, Sem.run_pure]
        exact ⟨_, rfl, by simp [RelV]⟩
    · cases he : eqOp P t a b with
      | none => rw [he] at hv; cases hv
      | some r =>
        rw [he] at hv
        injection hv with hv
        subst hv
        simp only [Sem.run_bind, hg he, Result.andThen_ok]
        rw [hbin (.inr rfl) he, if_neg (by decide)]
        simp only [Sem.run_bind, eqOp_rel he ha hb, Result.andThen_ok, Sem.run_pure]
        exact ⟨_, rfl, by simp [RelV]⟩
    · cases hv

theorem unV_rel {op : UnOp} {a : V} {a' : Value} {v : V} (hv : unV op a = some v) (ha : RelV ι h a a') : ∃ v', (Op.unary op a').run P w = .ok v' w ∧ RelV ι h v v' := by
  unfold unV at hv
  split at hv
  · simp only [RelV] at ha
    subst ha
    injection hv with hv
    subst hv
    exact ⟨_, rfl, by simp [RelV]⟩
  · simp only [RelV] at ha
    subst ha
    simp only [bitsOp, Option.map_some, Option.some.injEq] at hv
    subst hv
    exact ⟨_, rfl, by simp [RelV]⟩
  · simp only [RelV] at ha
    subst ha
    injection hv with hv
    subst hv
    exact ⟨_, rfl, by simp [RelV]⟩
  · cases hv

/-! ### Bounds -/
theorem idx_run {y : Nat} {u : V} {v : Value} {n : Nat} (hi : idx y u = some n) (hr : RelV ι h u v) (code : BoundsCode) : (Instr.sliceBound v y code).run P w = .ok n w ∧ n ≤ y := by
  unfold idx at hi
  split at hi
  · rename_i k i
    simp only [RelV] at hr
    subst hr
    split at hi
    · rename_i hc
      injection hi with hi
      subst hi
      refine ⟨?_, by omega⟩
      unfold Instr.sliceBound
      simp [asIntOf, hc]
    · cases hi
  · cases hi

theorem idxLt_int {y : Nat} {u : V} {v : Value} {n : Nat} (hi : idxLt y u = some n) (hr : RelV ι h u v) : ∃ (k : IntKind) (i : Int), v = .int k i ∧ (0 ≤ i ∧ i < (y : Int)) ∧ n = i.toNat ∧ n < y := by
  unfold idxLt at hi
  split at hi
  · rename_i k i
    simp only [RelV] at hr
    subst hr
    split at hi
    · rename_i hc
      injection hi with hi
      subst hi
      exact ⟨k, i, rfl, hc, rfl, by omega⟩
    · cases hi
  · cases hi

theorem bounds_run {b : Bool} {len cap : Nat} {lo hi : Option V} {lo' hi' : Option Value} {l n : Nat} (hlen : len ≤ cap) (hh : optIdx len len hi = some n) (hl : optIdx n 0 lo = some l)
    (h1 : ∀ u v, hi = some u → hi' = some v → RelV ι h u v) (h2 : hi.isSome = hi'.isSome) (h3 : ∀ u v, lo = some u → lo' = some v → RelV ι h u v) (h4 : lo.isSome = lo'.isSome) :
    (Instr.sliceBounds b len cap lo' hi' none).run P w = .ok (l, n, cap) w ∧ l ≤ n ∧ n ≤ len := by
  unfold Instr.sliceBounds
  cases hi with
  | none =>
    cases hi' with
    | some _ => cases h2
    | none =>
      simp only [optIdx, Option.some.injEq] at hh
      subst hh
      cases lo with
      | none =>
        cases lo' with
        | some _ => cases h4
        | none =>
          simp only [optIdx, Option.some.injEq] at hl
          subst hl
          exact ⟨by simp, by omega, Nat.le_refl _⟩
      | some u =>
        cases lo' with
        | none => cases h4
        | some v =>
          change idx _ u = some l at hl
          obtain ⟨e, hle⟩ := idx_run (P := P) (w := w) hl (h3 u v rfl rfl) .sliceB
          exact ⟨by simp [e], hle, Nat.le_refl _⟩
  | some u0 =>
    cases hi' with
    | none => cases h2
    | some v0 =>
      change idx len u0 = some n at hh
      have hle0 : n ≤ len := (idx_run (P := P) (w := w) hh (h1 u0 v0 rfl rfl) .sliceB).2
      have hh' : idx cap u0 = some n := by
        unfold idx at hh ⊢
        split at hh
        · split at hh
          · rename_i hc
            rw [if_pos ⟨hc.1, by omega⟩]
            exact hh
          · cases hh
        · cases hh
      have e0 := fun code => (idx_run (P := P) (w := w) hh' (h1 u0 v0 rfl rfl) code).1
      cases lo with
      | none =>
        cases lo' with
        | some _ => cases h4
        | none =>
          simp only [optIdx, Option.some.injEq] at hl
          subst hl
          exact ⟨by simp [e0], by omega, hle0⟩
      | some u =>
        cases lo' with
        | none => cases h4
        | some v =>
          change idx _ u = some l at hl
          obtain ⟨e, hle⟩ := idx_run (P := P) (w := w) hl (h3 u v rfl rfl) .sliceB
          exact ⟨by simp [e0, e], hle, hle0⟩
end

end Go.Hl
end
section
/-! Hl: operations without memory are the program's (5): all of them. -/
namespace Go.Hl
open Go.RowKit

section
variable {P : Program} {ι : Map} {h : H} {w : World}

theorem map_rel {ρ : Operand → V} {ρ' : Operand → Value} (hρ : ∀ x, RelV ι h (ρ x) (ρ' x)) : ∀ l : List Operand, RelVs ι h (l.map ρ) (l.map ρ')
  | [] => by simp [RelVs]
  | x :: l => by
    simp only [List.map_cons, RelVs]
    exact ⟨hρ x, map_rel hρ l⟩

theorem opt_rel {ρ : Operand → V} {ρ' : Operand → Value} (hρ : ∀ x, RelV ι h (ρ x) (ρ' x)) (o : Option Operand) : (∀ u v, o.map ρ = some u → o.map ρ' = some v → RelV ι h u v) ∧ (o.map ρ).isSome = (o.map ρ').isSome := by
  cases o with
  | none => exact ⟨fun u v h1 => by simp at h1, rfl⟩
  | some x =>
    refine ⟨fun u v h1 h2 => ?_, rfl⟩
    simp only [Option.map_some, Option.some.injEq] at h1 h2
    rw [← h1, ← h2]
    exact hρ x

theorem add_addr (b o n : Nat) : (⟨b, o, none⟩ : Addr).add n = ⟨b, o + n, none⟩ := by unfold Addr.add; split <;> simp_all

theorem parts_rel {ρ : Operand → V} {ρ' : Operand → Value} (hρ : ∀ x, RelV ι h (ρ x) (ρ' x)) (parts : Array (Nat × Operand)) :
    (parts.toList.map fun p => (p.1, ρ p.2)).map (·.1) = ((parts.map fun (p : Nat × Operand) => (p.1, ρ' p.2)).toList).map (·.1) ∧
    RelVs ι h ((parts.toList.map fun p => (p.1, ρ p.2)).map (·.2)) (((parts.map fun (p : Nat × Operand) => (p.1, ρ' p.2)).toList).map (·.2)) := by
  refine ⟨by simp, ?_⟩
  have := map_rel hρ (parts.toList.map (·.2))
  simpa [Function.comp_def] using this

theorem parts_known {ρ : Operand → V} {parts : Array (Nat × Operand)} (hU : ¬ (parts.toList.any (fun p => (ρ p.2).isU) = true)) : ∀ p ∈ parts.toList.map (fun p => (p.1, ρ p.2)), p.2 ≠ .undef := by
  intro p hp' he
  obtain ⟨q, hq, rfl⟩ := List.mem_map.1 hp'
  apply hU
  rw [List.any_eq_true]
  exact ⟨q, hq, by simp only at he; rw [he]; rfl⟩

theorem sim_build {t : TypeId} {parts : Array (Nat × Operand)} {o : Oper} {ρ : Operand → V} {ρ' : Operand → Value} {v : V} (ho : o.op = .build t parts) (hp : pureOp P o ρ = some v) (hρ : ∀ x, RelV ι h (ρ x) (ρ' x)) :
    ∃ v', (execOp ρ' o).run P w = .ok (.value v') w ∧ RelV ι h v v' := by
  unfold pureOp at hp
  simp only [ho] at hp
  split at hp
  · cases hp
  · rename_i hU
    obtain ⟨hm1, hm2⟩ := parts_rel (ι := ι) (h := h) hρ parts
    unfold execOp
    simp only [ho, Sem.run_bind]
    unfold Instr.build
    split at hp
    · rename_i i hti
      obtain ⟨I, u, z, hI, hu, hz, hd, -, -, -, hzero⟩ := ti_ok hti
      have hz0 : RelVs ι h i.zero z.cells.toList := by rw [hzero]; exact ofCells_rel _
      split at hp
      · rename_i fs hfs
        rw [hfs] at hd
        obtain ⟨F, rfl, hF⟩ := tyOf_struct hd
        cases hf : pureOp.fillF fs i.zero (parts.toList.map fun p => (p.1, ρ p.2)) with
        | none => simp [hf] at hp
        | some res =>
          simp only [hf, Option.map_some, Option.some.injEq] at hp
          subst hp
          have hplaces : ∀ l : List Field, (∀ f ∈ l, ∃ i, P.info? f.type = some i) → (l.mapM fun f => (do pure (f.offset, ← sizeOf f.type) : Sem (Nat × Nat))).run P w = .ok (l.map fun f => (f.offset, ((P.info? f.type).map (·.size)).getD 0)) w := by
            intro l
            induction l with
            | nil => intro _; rfl
            | cons f l ih =>
              intro hl
              obtain ⟨j, hj⟩ := hl f (by simp)
              have e := ih (fun g hg => hl g (by simp [hg]))
              simp only [List.mapM_cons, Sem.run_bind, r_size hj, Result.andThen_ok, Sem.run_pure, e, List.map_cons, hj, Option.map_some, Option.getD_some]
          have hall : ∀ (fs : List Field) (l : List (Nat × Nat × Bool)), fieldsOf P fs = some l → ∀ f ∈ fs, ∃ i, P.info? f.type = some i := by
            intro fs
            induction fs with
            | nil => intro _ _ f hf; simp at hf
            | cons g fs ih =>
              intro l hl f hf
              simp only [fieldsOf] at hl
              split at hl
              · rename_i i' u' r hi' hu' hr'
                rcases List.mem_cons.1 hf with rfl | hf
                · exact ⟨i', hi'⟩
                · exact ih r hr' f hf
              · cases hl
          have hpl : ∀ (i : Nat) (o n : Nat) (g : Bool), fs[i]? = some (o, n, g) → (((F.toList.map fun f => (f.offset, ((P.info? f.type).map (·.size)).getD 0)).toArray)[i]? = some (o, n)) ∧ n ≠ 0 := fun i o n g hg => by
            obtain ⟨F', i', u', h1, h2, h3, h4, h5, h6, h7⟩ := fieldsOf_get hF hg
            refine ⟨?_, h6⟩
            simp only [List.getElem?_toArray, List.getElem?_map, h1, Option.map_some, h2, Option.getD_some, h4, h5]
          obtain ⟨res', hr1, hr2⟩ := fillF_rel (ι := ι) (h := h) hpl hf hz0 hm1 hm2 (parts_known hU)
          simp only [Sem.run_bind, r_zero hI hz, r_und hu, Result.andThen_ok]
          rw [show (F.mapM fun f => (do pure (f.offset, ← sizeOf f.type) : Sem (Nat × Nat))) = (do pure (← F.toList.mapM fun f => (do pure (f.offset, ← sizeOf f.type) : Sem (Nat × Nat))).toArray) from by rw [Array.mapM_eq_mapM_toList]; rfl]
          simp only [Sem.run_bind, hplaces F.toList (hall _ _ hF), Result.andThen_ok, Sem.run_pure, hr1]
          exact ⟨_, rfl, by simp only [RelV]; exact ⟨_, rfl, hr2⟩⟩
      · rename_i n esz g hfs
        rw [hfs] at hd
        obtain ⟨e, I', u', rfl, hI', hu', hsz, hg⟩ := tyOf_arr hd
        cases hf : pureOp.fillA n esz i.zero (parts.toList.map fun p => (p.1, ρ p.2)) with
        | none => simp [hf] at hp
        | some res =>
          simp only [hf, Option.map_some, Option.some.injEq] at hp
          subst hp
          obtain ⟨res', hr1, hr2⟩ := fillA_rel (ι := ι) (h := h) hf hz0 hm1 hm2 (parts_known hU)
          simp only [Sem.run_bind, r_zero hI hz, r_und hu, r_size hI', hsz, Result.andThen_ok, hr1, Sem.run_pure]
          exact ⟨_, rfl, by simp only [RelV]; exact ⟨_, rfl, hr2⟩⟩
      · cases hp
    · cases hp
end

end Go.Hl
end
section
/-! Hl: operations without memory are the program's (6): all of them. -/
namespace Go.Hl
open Go.RowKit

section
variable {P : Program} {ι : Map} {h : H} {w : World}

theorem sim_slice {t : TypeId} {x : Operand} {lo hi : Option Operand} {o : Oper} {ρ : Operand → V} {ρ' : Operand → Value} {v : V} (ho : o.op = .slice t x lo hi none) (hp : pureOp P o ρ = some v) (hρ : ∀ x, RelV ι h (ρ x) (ρ' x)) :
    ∃ v', (execOp ρ' o).run P w = .ok (.value v') w ∧ RelV ι h v v' := by
  unfold pureOp at hp
  simp only [ho] at hp
  obtain ⟨hl1, hl2⟩ := opt_rel hρ lo
  obtain ⟨hh1, hh2⟩ := opt_rel hρ hi
  have hx := hρ x
  unfold execOp
  simp only [ho, Sem.run_bind]
  unfold Instr.sliceAt
  split at hp
  · rename_i i hti
    obtain ⟨I, u, z, hI, hu, hz, hd, -, -, -, -⟩ := ti_ok hti
    split at hp
    · rename_i s hfs hs
      rw [hfs] at hd
      have := tyOf_str hd
      subst this
      rw [hs] at hx
      simp only [RelV] at hx
      split at hp
      · rename_i n hn
        split at hp
        · rename_i l hl
          injection hp with hp
          subst hp
          obtain ⟨hb, _, _⟩ := bounds_run (P := P) (w := w) (b := false) (Nat.le_refl _) hn hl hh1 hh2 hl1 hl2
          simp only [Sem.run_bind, r_und hu, Result.andThen_ok, hx, Instr.slice]
          simp only [Option.map_none, Option.isSome_none, Bool.false_eq_true, if_false, Sem.run_bind, Result.andThen_ok, ba_size, Sem.run_pure, hb, ba_extract]
          exact ⟨_, rfl, by simp [RelV]⟩
        · cases hp
      · cases hp
    · rename_i e esz eb b off len ver ez lim hfs hs
      rw [hfs] at hd
      obtain ⟨rfl, I', hI', hsz, _⟩ := tyOf_slice hd
      rw [hs] at hx
      simp only [RelV] at hx
      obtain ⟨a, cap, hx, k, hk, hg, hez, hlc, hlim, hlo, hle, ha, hc⟩ := hx
      split at hp
      · rename_i n hn
        split at hp
        · rename_i l hl
          split at hp
          · cases hp
          · rename_i hcond
            have hez' : ez = esz := by
              rcases Nat.lt_trichotomy ez esz with h1 | h1 | h1
              · exact absurd (.inr (by omega)) hcond
              · exact h1
              · exact absurd (.inr (by omega)) hcond
            have hnl : lim = true → n = len := fun h1 => by
              have : ¬ (n < len) := fun h2 => hcond (.inl ⟨h1, h2⟩)
              have := (bounds_run (P := P) (w := w) (b := true) hlc hn hl hh1 hh2 hl1 hl2).2.2
              omega
            subst hez'
            injection hp with hp
            subst hp
            obtain ⟨hb, hln, hnle⟩ := bounds_run (P := P) (w := w) (b := true) hlc hn hl hh1 hh2 hl1 hl2
            simp only [Sem.run_bind, r_und hu, Result.andThen_ok, hx, Instr.slice, Option.map_none, hb, r_size hI', hsz, Sem.run_pure]
            refine ⟨_, rfl, ?_⟩
            simp only [RelV]
            have hmul : n * ez ≤ len * ez := Nat.mul_le_mul_right _ hnle
            have hml : l * ez + (n - l) * ez = n * ez := by rw [← Nat.add_mul]; congr 1; omega
            have hmc : l * ez + (cap - l) * ez = cap * ez := by rw [← Nat.add_mul]; congr 1; omega
            by_cases hcl : cap = l
            · rw [if_pos hcl]
              refine ⟨a, cap - l, rfl, k, hk, hg, hez, by omega, fun h1 => by have := hlim h1; have := hnl h1; omega, by omega, by omega, fun h1 => by omega, fun h1 => by have := hc h1; omega⟩
            · rw [if_neg hcl]
              refine ⟨a.add (l * ez), cap - l, rfl, k, hk, hg, hez, by omega, fun h1 => by have := hlim h1; have := hnl h1; omega, by omega, by omega, fun h1 => ?_, fun h1 => by have := hc h1; omega⟩
              rw [ha (by omega), add_addr]
              congr 1
              omega
        · cases hp
      · cases hp
    · rename_i e esz eb hfs hs
      rw [hfs] at hd
      obtain ⟨rfl, I', hI', hsz, _⟩ := tyOf_slice hd
      rw [hs] at hx
      simp only [RelV] at hx
      split at hp
      · rename_i n hn
        split at hp
        · rename_i l hl
          injection hp with hp
          subst hp
          obtain ⟨hb, hln, hnle⟩ := bounds_run (P := P) (w := w) (b := true) (Nat.le_refl 0) hn hl hh1 hh2 hl1 hl2
          have hl0 : l = 0 := by omega
          have hn0 : n = 0 := by omega
          subst hl0 hn0
          simp only [Sem.run_bind, r_und hu, Result.andThen_ok, hx, Instr.slice, Option.map_none, hb, r_size hI', hsz, Sem.run_pure]
          exact ⟨_, rfl, by simp [RelV]⟩
        · cases hp
      · cases hp
    · cases hp
  · cases hp

theorem bounds_run3 {len cap : Nat} {u0 u1 : V} {v0 v1 : Value} {lo : Option V} {lo' : Option Value} {l m n : Nat} (hlen : len ≤ cap) (hm : idx len u1 = some m) (hh : idx m u0 = some n) (hl : optIdx n 0 lo = some l)
    (h0 : RelV ι h u0 v0) (h1 : RelV ι h u1 v1) (h3 : ∀ u v, lo = some u → lo' = some v → RelV ι h u v) (h4 : lo.isSome = lo'.isSome) :
    (Instr.sliceBounds true len cap lo' (some v0) (some v1)).run P w = .ok (l, n, m) w ∧ l ≤ n ∧ n ≤ m ∧ m ≤ len := by
  have hle0 : m ≤ len := (idx_run (P := P) (w := w) hm h1 .sliceB).2
  have hm' : idx cap u1 = some m := by
    unfold idx at hm ⊢
    split at hm
    · split at hm
      · rename_i hc
        rw [if_pos ⟨hc.1, by omega⟩]
        exact hm
      · cases hm
    · cases hm
  have e1 := fun code => (idx_run (P := P) (w := w) hm' h1 code).1
  have e0 := fun code => (idx_run (P := P) (w := w) hh h0 code).1
  have hle1 : n ≤ m := (idx_run (P := P) (w := w) hh h0 .sliceB).2
  unfold Instr.sliceBounds
  cases lo with
  | none =>
    cases lo' with
    | some _ => cases h4
    | none =>
      simp only [optIdx, Option.some.injEq] at hl
      subst hl
      exact ⟨by simp [e0, e1], by omega, hle1, hle0⟩
  | some u =>
    cases lo' with
    | none => cases h4
    | some v =>
      change idx _ u = some l at hl
      have e2 := fun code => (idx_run (P := P) (w := w) hl (h3 u v rfl rfl) code).1
      have hle := (idx_run (P := P) (w := w) hl (h3 u v rfl rfl) .sliceB).2
      exact ⟨by simp [e0, e1, e2], hle, hle1, hle0⟩
theorem sim_slice3 {t : TypeId} {x y z : Operand} {lo : Option Operand} {o : Oper} {ρ : Operand → V} {ρ' : Operand → Value} {v : V} (ho : o.op = .slice t x lo (some y) (some z)) (hp : pureOp P o ρ = some v) (hρ : ∀ x, RelV ι h (ρ x) (ρ' x)) :
    ∃ v', (execOp ρ' o).run P w = .ok (.value v') w ∧ RelV ι h v v' := by
  unfold pureOp at hp
  simp only [ho] at hp
  obtain ⟨hl1, hl2⟩ := opt_rel hρ lo
  have hx := hρ x
  have hy := hρ y
  have hzz := hρ z
  unfold execOp
  simp only [ho, Sem.run_bind]
  unfold Instr.sliceAt
  split at hp
  · rename_i i hti
    obtain ⟨I, u, zz, hI, hu, hz, hd, -, -, -, -⟩ := ti_ok hti
    split at hp
    · rename_i e esz eb b off len ver ez lim hfs hs
      rw [hfs] at hd
      obtain ⟨rfl, I', hI', hsz, _⟩ := tyOf_slice hd
      rw [hs] at hx
      simp only [RelV] at hx
      obtain ⟨a, cap, hx, k, hk, hg, hez, hlc, hlim, hlo, hle, ha, hc⟩ := hx
      split at hp
      · rename_i m hm
        split at hp
        · rename_i n hn
          split at hp
          · rename_i l hl
            split at hp
            · rename_i hcond
              obtain ⟨hmn, hez'⟩ := hcond
              subst hmn hez'
              injection hp with hp
              subst hp
              obtain ⟨hb, hln, -, hnle⟩ := bounds_run3 (P := P) (w := w) hlc hm hn hl hy hzz hl1 hl2
              simp only [Sem.run_bind, r_und hu, Result.andThen_ok, hx, Instr.slice, Option.map_some, hb, r_size hI', hsz, Sem.run_pure]
              refine ⟨_, rfl, ?_⟩
              simp only [RelV]
              have hmul : m * ez ≤ len * ez := Nat.mul_le_mul_right _ hnle
              have hml : l * ez + (m - l) * ez = m * ez := by rw [← Nat.add_mul]; congr 1; omega
              by_cases hcl : m = l
              · rw [if_pos hcl]
                exact ⟨a, m - l, rfl, k, hk, hg, hez, Nat.le_refl _, fun _ => rfl, by omega, by omega, fun h1 => by omega, fun h1 => by cases h1⟩
              · rw [if_neg hcl]
                refine ⟨a.add (l * ez), m - l, rfl, k, hk, hg, hez, Nat.le_refl _, fun _ => rfl, by omega, by omega, fun h1 => ?_, fun h1 => by cases h1⟩
                rw [ha (by omega), add_addr]
                congr 1
                omega
            · cases hp
          · cases hp
        · cases hp
      · cases hp
    · cases hp
  · cases hp

theorem sim_fieldAddr {t : TypeId} {x : Operand} {f : Nat} {o : Oper} {ρ : Operand → V} {ρ' : Operand → Value} {v : V} (ho : o.op = .fieldAddr t x f) (hp : pureOp P o ρ = some v) (hρ : ∀ x, RelV ι h (ρ x) (ρ' x)) :
    ∃ v', (execOp ρ' o).run P w = .ok (.value v') w ∧ RelV ι h v v' := by
  unfold pureOp at hp
  simp only [ho] at hp
  have hx := hρ x
  unfold execOp
  simp only [ho, Sem.run_bind]
  unfold Instr.fieldAt
  split at hp
  · rename_i i hti
    obtain ⟨I, u, z, hI, hu, hz, hd, -, -, -, -⟩ := ti_ok hti
    split at hp
    · rename_i fs b off ver e hfs hs
      rw [hfs] at hd
      obtain ⟨F, rfl, hF⟩ := tyOf_struct hd
      rw [hs] at hx
      simp only [RelV] at hx
      obtain ⟨hok, hlo, hn, hx⟩ := hx
      split at hp
      · rename_i q hq
        injection hp with hp
        subst hp
        obtain ⟨q1, q2, q3⟩ := q
        obtain ⟨F', i', u', h1, h2, h3, h4, h5, h6, h7⟩ := fieldsOf_get hF hq
        simp only [Sem.run_bind, r_und hu, Result.andThen_ok, hx]
        rw [show F[f]? = some F' by simpa using h1]
        simp only [Instr.sureAddr, fieldPlace, Sem.run_bind, Sem.run_pure, Result.andThen_ok, r_size h2, h5, if_neg h6, add_addr, h4]
        refine ⟨_, rfl, ?_⟩
        simp only [RelV]
        exact ⟨hok, by omega, hn, by congr 3; omega⟩
      · cases hp
    · cases hp
  · cases hp

theorem sim_field {t : TypeId} {x : Operand} {f : Nat} {o : Oper} {ρ : Operand → V} {ρ' : Operand → Value} {v : V} (ho : o.op = .field t x f) (hp : pureOp P o ρ = some v) (hρ : ∀ x, RelV ι h (ρ x) (ρ' x)) :
    ∃ v', (execOp ρ' o).run P w = .ok (.value v') w ∧ RelV ι h v v' := by
  unfold pureOp at hp
  simp only [ho] at hp
  have hx := hρ x
  unfold execOp
  simp only [ho, Sem.run_bind]
  unfold Instr.field
  split at hp
  · rename_i i hti
    obtain ⟨I, u, z, hI, hu, hz, hd, -, -, -, -⟩ := ti_ok hti
    split at hp
    · rename_i fs l hfs hs
      rw [hfs] at hd
      obtain ⟨F, rfl, hF⟩ := tyOf_struct hd
      rw [hs] at hx
      simp only [RelV] at hx
      obtain ⟨c, hx, hc⟩ := hx
      split at hp
      · rename_i q hq
        obtain ⟨q1, q2, q3⟩ := q
        obtain ⟨F', i', u', h1, h2, h3, h4, h5, h6, h7⟩ := fieldsOf_get hF hq
        obtain ⟨v', hv', hr⟩ := partOf_rel (w := w) hp hc h2 h3 h5 h7
        simp only [Sem.run_bind, r_und hu, Result.andThen_ok, hx]
        rw [show F[f]? = some F' by simpa using h1]
        simp only [asAgg, Sem.run_bind, Sem.run_pure, Result.andThen_ok, h4, hv']
        exact ⟨_, rfl, hr⟩
      · cases hp
    · cases hp
  · cases hp

theorem sim_indexAddr {t : TypeId} {x y : Operand} {o : Oper} {ρ : Operand → V} {ρ' : Operand → Value} {v : V} (ho : o.op = .indexAddr t x y) (hp : pureOp P o ρ = some v) (hρ : ∀ x, RelV ι h (ρ x) (ρ' x)) :
    ∃ v', (execOp ρ' o).run P w = .ok (.value v') w ∧ RelV ι h v v' := by
  unfold pureOp at hp
  simp only [ho] at hp
  have hx := hρ x
  unfold execOp
  simp only [ho, Sem.run_bind]
  unfold Instr.indexAt
  split at hp
  · rename_i i hti
    obtain ⟨I, u, z, hI, hu, hz, hd, -, -, -, -⟩ := ti_ok hti
    split at hp
    · rename_i e esz eb b off len ver ez lim hfs hs
      rw [hfs] at hd
      obtain ⟨rfl, I', hI', hsz, _⟩ := tyOf_slice hd
      rw [hs] at hx
      simp only [RelV] at hx
      obtain ⟨a, cap, hx, k, hk, hg, hez, hlc, hlim, hlo, hle, ha, hc⟩ := hx
      split at hp
      · rename_i j hj
        split at hp
        · rename_i heq
          subst heq
          injection hp with hp
          subst hp
          obtain ⟨k', n, hy, hc1, rfl, hlt⟩ := idxLt_int hj (hρ y)
          simp only [Sem.run_bind, r_und hu, Result.andThen_ok, hx, hy, asIntOf, Sem.run_pure, if_pos hc1, r_size hI', hsz]
          refine ⟨_, rfl, ?_⟩
          simp only [RelV]
          have hm : n.toNat * ez + ez ≤ len * ez := by rw [← Nat.succ_mul]; exact Nat.mul_le_mul_right _ hlt
          refine ⟨⟨k, hk, hg⟩, by omega, by omega, ?_⟩
          rw [ha (by omega), add_addr]
          congr 3
          omega
        · cases hp
      · cases hp
    · rename_i n esz g b off ver e hfs hs
      rw [hfs] at hd
      obtain ⟨e', I', u', rfl, hI', hu', hsz, hg⟩ := tyOf_arr hd
      rw [hs] at hx
      simp only [RelV] at hx
      obtain ⟨hok, hlo, hn, hx⟩ := hx
      split at hp
      · rename_i j hj
        split at hp
        · rename_i hz'
          injection hp with hp
          subst hp
          obtain ⟨k', m, hy, hc1, rfl, hlt⟩ := idxLt_int hj (hρ y)
          simp only [Sem.run_bind, r_und hu, Result.andThen_ok, hx, hy, asIntOf, Sem.run_pure, Instr.sureAddr, if_pos hc1, r_size hI', hsz]
          refine ⟨_, rfl, ?_⟩
          simp only [RelV]
          have hm : m.toNat * esz + esz ≤ n * esz := by rw [← Nat.succ_mul]; exact Nat.mul_le_mul_right _ hlt
          refine ⟨hok, by omega, by omega, ?_⟩
          rw [add_addr]
          congr 3
          omega
        · cases hp
      · cases hp
    · cases hp
  · cases hp

theorem sim_index {t : TypeId} {x y : Operand} {o : Oper} {ρ : Operand → V} {ρ' : Operand → Value} {v : V} (ho : o.op = .index t x y) (hp : pureOp P o ρ = some v) (hρ : ∀ x, RelV ι h (ρ x) (ρ' x)) :
    ∃ v', (execOp ρ' o).run P w = .ok (.value v') w ∧ RelV ι h v v' := by
  unfold pureOp at hp
  simp only [ho] at hp
  have hx := hρ x
  unfold execOp
  simp only [ho, Sem.run_bind]
  unfold Instr.index
  split at hp
  · rename_i i hti
    obtain ⟨I, u, z, hI, hu, hz, hd, -, -, -, -⟩ := ti_ok hti
    split at hp
    · rename_i s hfs hs
      rw [hfs] at hd
      have := tyOf_str hd
      subst this
      rw [hs] at hx
      simp only [RelV] at hx
      split at hp
      · rename_i j hj
        injection hp with hp
        subst hp
        obtain ⟨k', n, hy, hc1, rfl, hlt⟩ := idxLt_int hj (hρ y)
        simp only [Sem.run_bind, r_und hu, Result.andThen_ok, hx, hy, asIntOf, Sem.run_pure, if_pos hc1.1]
        have e : (⟨s.toArray⟩ : ByteArray)[n.toNat]? = some (s.getD n.toNat 0) := by
          rw [getElem?_pos _ _ (by simpa [ByteArray.size] using hlt)]
          simp only [ByteArray.getElem_eq_getElem_data, List.getElem_toArray]
          simp [List.getD, hlt]
        rw [e]
        exact ⟨_, rfl, by simp [RelV]⟩
      · cases hp
    · rename_i n esz g l hfs hs
      rw [hfs] at hd
      obtain ⟨e', I', u', rfl, hI', hu', hsz, hg⟩ := tyOf_arr hd
      rw [hs] at hx
      simp only [RelV] at hx
      obtain ⟨c, hx, hc⟩ := hx
      split at hp
      · rename_i j hj
        obtain ⟨k', m, hy, hc1, rfl, hlt⟩ := idxLt_int hj (hρ y)
        obtain ⟨v', hv', hr⟩ := partOf_rel (w := w) hp hc hI' hu' hsz hg
        simp only [Sem.run_bind, r_und hu, Result.andThen_ok, hx, hy, asIntOf, Sem.run_pure, if_pos hc1, r_size hI', hsz, hv']
        exact ⟨_, rfl, hr⟩
      · cases hp
    · cases hp
  · cases hp
end

end Go.Hl
end
section
/-! Hl: operations without memory are the program's (7): all of them. -/
namespace Go.Hl
open Go.RowKit

section
variable {P : Program} {ι : Map} {h : H} {w : World}

theorem sim_pure {o : Oper} {ρ : Operand → V} {ρ' : Operand → Value} {v : V} (hp : pureOp P o ρ = some v) (hρ : ∀ x, RelV ι h (ρ x) (ρ' x)) :
    ∃ v', (execOp ρ' o).run P w = .ok (.value v') w ∧ RelV ι h v v' := by
  cases ho : o.op with
  | build t parts => exact sim_build ho hp hρ
  | fieldAddr t x f => exact sim_fieldAddr ho hp hρ
  | field t x f => exact sim_field ho hp hρ
  | indexAddr t x y => exact sim_indexAddr ho hp hρ
  | index t x y => exact sim_index ho hp hρ
  | slice t x lo hi mx =>
    cases mx with
    | none => exact sim_slice ho hp hρ
    | some z =>
      cases hi with
      | none => unfold pureOp at hp; simp [ho] at hp
      | some y => exact sim_slice3 ho hp hρ
  | move x =>
    unfold pureOp at hp
    simp only [ho, Option.some.injEq] at hp
    subst hp
    exact ⟨ρ' x, by simp [execOp, ho], hρ x⟩
  | assign x =>
    unfold pureOp at hp
    simp only [ho, Option.some.injEq] at hp
    subst hp
    exact ⟨ρ' x, by simp [execOp, ho], hρ x⟩
  | pick c a b =>
    unfold pureOp at hp
    simp only [ho] at hp
    split at hp
    · rename_i t hc
      injection hp with hp
      subst hp
      have hcv := hρ c
      rw [hc] at hcv
      simp only [RelV] at hcv
      unfold execOp
      simp only [ho, Sem.run_bind, hcv, asBool, Sem.run_pure, Result.andThen_ok]
      cases t
      · exact ⟨_, rfl, hρ b⟩
      · exact ⟨_, rfl, hρ a⟩
    · cases hp
  | nilCheck x =>
    unfold pureOp at hp
    simp only [ho] at hp
    split at hp
    · rename_i b off ver z hc
      injection hp with hp
      subst hp
      have hcv := hρ x
      rw [hc] at hcv
      have hcv' := hcv
      simp only [RelV] at hcv
      obtain ⟨_, _, _, hcv⟩ := hcv
      unfold execOp
      simp only [ho, hcv]
      exact ⟨_, rfl, hcv ▸ hcv'⟩
    · cases hp
  | binOp op t x y u =>
    unfold pureOp at hp
    simp only [ho] at hp
    obtain ⟨v', h1, h2⟩ := binV_rel (w := w) (x := x) (y := y) hp (hρ x) (hρ y)
    refine ⟨v', ?_, h2⟩
    unfold execOp
    simp only [ho]
    rw [Sem.run_bind, h1]
    rfl
  | unOp op t x =>
    unfold pureOp at hp
    simp only [ho] at hp
    obtain ⟨v', h1, h2⟩ := unV_rel (P := P) (w := w) hp (hρ x)
    refine ⟨v', ?_, h2⟩
    unfold execOp
    simp only [ho, Sem.run_bind, h1, Result.andThen_ok]
    rfl
  | convert s t x =>
    unfold pureOp at hp
    simp only [ho] at hp
    have hx := hρ x
    unfold execOp
    simp only [ho, Sem.run_bind]
    unfold convert
    split at hp
    · rename_i k k' n hs ht hv
      injection hp with hp
      subst hp
      rw [hv] at hx
      simp only [RelV] at hx
      simp only [Sem.run_bind, r_und hs, r_und ht, Result.andThen_ok, hx]
      exact ⟨_, rfl, by simp [RelV]⟩
    · rename_i l hs ht hv
      injection hp with hp
      subst hp
      rw [hv] at hx
      have hx' := hx
      simp only [RelV] at hx
      simp only [Sem.run_bind, r_und hs, r_und ht, Result.andThen_ok, hx]
      exact ⟨_, rfl, by simp [RelV]⟩
    · cases hp
  | extract t i =>
    unfold pureOp at hp
    simp only [ho] at hp
    have hx := hρ t
    split at hp
    · rename_i l hl
      rw [hl] at hx
      simp only [RelV] at hx
      rcases hx with rfl | ⟨c, hx, hc⟩
      · simp at hp
      · obtain ⟨v', h1, h2⟩ := hc.get hp
        unfold execOp
        simp only [ho, Sem.run_bind, Instr.extract, hx]
        rw [show c[i]? = some v' by simpa using h1]
        exact ⟨_, rfl, h2⟩
    · cases hp
  | makeFunc f a c =>
    unfold pureOp at hp
    simp only [ho, Option.some.injEq] at hp
    subst hp
    unfold execOp
    simp only [ho, Sem.run_bind, Instr.makeFunc, Sem.run_pure, Result.andThen_ok]
    refine ⟨_, rfl, ?_⟩
    simp only [RelV]
    exact ⟨_, _, rfl, by simpa using map_rel hρ a.toList, by simpa using map_rel hρ c.toList⟩
  | makeInterface t x =>
    unfold pureOp at hp
    simp only [ho] at hp
    unfold execOp
    simp only [ho, Sem.run_bind, Instr.makeInterface]
    split at hp
    · cases hp
    · rename_i u hne hu
      injection hp with hp
      subst hp
      simp only [r_und hu, Result.andThen_ok]
      refine ⟨_, rfl, ?_⟩
      simp only [RelV]
      exact ⟨_, rfl, hρ x⟩
    · cases hp
  | call c =>
    obtain ⟨callee, args, argTypes⟩ := c
    unfold pureOp at hp
    simp only [ho] at hp
    unfold callPure at hp
    simp only at hp
    split at hp
    · rename_i b
      have hres : (execOp ρ' o).run P w = (builtin b argTypes o.type (args.map fun | .const _ => true | _ => false) (args.map ρ')).run P w := by
        unfold execOp resolve invoke
        simp only [ho]
        rfl
      rw [hres]
      split at hp
      · split at hp
        · rename_i t _ x _ ht hx
          obtain ⟨args⟩ := args
          obtain ⟨argTypes⟩ := argTypes
          simp only at ht hx
          subst ht hx
          have hxv := hρ x
          unfold lenOp at hp
          simp only [builtin, Builtin.len_, Sem.run_bind, List.map_toArray, List.map_cons, List.getElem?_toArray, List.getElem?_cons_zero]
          split at hp
          · rename_i hu
            split at hp
            · rename_i s hs
              injection hp with hp
              subst hp
              rw [hs] at hxv
              simp only [RelV] at hxv
              simp only [hxv, r_und hu, Result.andThen_ok, Sem.run_pure, ba_size]
              exact ⟨_, rfl, by simp [RelV, goInt]⟩
            · cases hp
          · rename_i hu
            split at hp
            · rename_i hs
              injection hp with hp
              subst hp
              rw [hs] at hxv
              simp only [RelV] at hxv
              obtain ⟨a, cap, hxv, _⟩ := hxv
              simp only [hxv, r_und hu, Result.andThen_ok, Sem.run_pure]
              exact ⟨_, rfl, by simp [RelV, goInt]⟩
            · rename_i hs
              injection hp with hp
              subst hp
              rw [hs] at hxv
              simp only [RelV] at hxv
              simp only [hxv, r_und hu, Result.andThen_ok, Sem.run_pure]
              exact ⟨_, rfl, by simp [RelV, goInt]⟩
            · cases hp
          · rename_i hu
            injection hp with hp
            subst hp
            simp only [r_und hu, Result.andThen_ok, Sem.run_pure]
            exact ⟨_, rfl, by simp [RelV, goInt]⟩
          · cases hp
        · cases hp
      · split at hp
        · rename_i x y hxy
          obtain ⟨args⟩ := args
          simp only at hxy
          subst hxy
          have hxv := hρ x
          have hyv := hρ y
          unfold minV at hp
          split at hp
          · rename_i hx hy
            rw [hx] at hxv
            rw [hy] at hyv
            simp only [RelV] at hxv hyv
            split at hp
            · injection hp with hp
              subst hp
              simp [builtin, Builtin.min_, hxv, hyv, Builtin.min2, RelV]
            · cases hp
          · cases hp
        · cases hp
      · split at hp
        · rename_i x y hxy
          obtain ⟨args⟩ := args
          simp only at hxy
          subst hxy
          have hxv := hρ x
          have hyv := hρ y
          unfold maxV at hp
          split at hp
          · rename_i hx hy
            rw [hx] at hxv
            rw [hy] at hyv
            simp only [RelV] at hxv hyv
            split at hp
            · injection hp with hp
              subst hp
              simp [builtin, Builtin.max_, hxv, hyv, Builtin.max2, RelV]
            · cases hp
          · cases hp
        · cases hp
      · cases hp
    · cases hp
  | _ => unfold pureOp at hp; simp [ho] at hp
end

end Go.Hl
end
section
/-! Hl: what it reads is what the program reads. -/
namespace Go.Hl
open Go.RowKit

section
variable {P : Program} {ι : Map} {base : Nat} {h : H} {w : World}

theorem read_len {b off ver n : Nat} {l : List V} (hl : h.read b off ver n = some l) : l.length ≤ n := by
  unfold H.read at hl
  split at hl
  · split at hl
    · injection hl with hl
      rw [← hl]
      simp
      omega
    · cases hl
  · cases hl

theorem loads {a : Addr} {vs : List Value} {n : Nat} (hn : vs.length = n) (ha : ∀ i, i < n → w.cell? (a.add i) = vs[i]?) : (loadCells a n).run P w = .ok vs.toArray w := by
  subst hn
  exact run_loadCells_list w a vs fun j v hv => by
    have hlt := (List.getElem?_eq_some_iff.1 hv).1
    rw [ha j hlt]
    exact hv

theorem sim_readVar {t : TypeId} {a v : V} {a' : Value} (hv : readVar P t a h = some v) (hr : Rel ι base h w) (ha : RelV ι h a a') :
    ∃ v', (Instr.loadAt t a').run P w = .ok v' w ∧ RelV ι h v v' := by
  unfold readVar at hv
  split at hv
  · rename_i i hti
    obtain ⟨I, u, z, hI, hu, hz, hd, hsz, hag, -, -⟩ := ti_ok hti
    split at hv
    · rename_i b off ver e
      simp only [RelV] at ha
      obtain ⟨hok, hlo, hn, rfl⟩ := ha
      split at hv
      · rename_i l hl
        split at hv
        · rename_i hle
          obtain ⟨vs, h1, h2, h3⟩ := read_ok hr hl hok hlo (by omega)
          unfold Instr.loadAt
          simp only [Instr.sureAddr, Sem.run_bind, Sem.run_pure, Result.andThen_ok]
          unfold loadVar
          simp only [Sem.run_bind, r_agg hu, Result.andThen_ok]
          rw [hag] at hv
          cases hg : aggD u with
          | true =>
            rw [hg] at hv
            simp only [cond_true, Option.some.injEq] at hv
            subst hv
            simp only [if_true, Sem.run_bind, r_size hI, Result.andThen_ok]
            rw [loads (vs := vs) (by rw [h2, hsz]) (fun i hi => by rw [add_addr]; exact h3 i (by omega))]
            simp only [Result.andThen_ok, Sem.run_pure]
            exact ⟨_, rfl, by simp only [RelV]; exact ⟨_, rfl, by simpa using h1⟩⟩
          | false =>
            rw [hg] at hv
            simp only [cond_false] at hv
            rw [List.head?_eq_getElem?] at hv
            obtain ⟨v', h4, h5⟩ := h1.get hv
            have hlt := (List.getElem?_eq_some_iff.1 h4).1
            have h6 := h3 0 (by omega)
            rw [Nat.add_zero, h4] at h6
            simp only [Bool.false_eq_true, if_false, run_load, h6]
            exact ⟨_, rfl, h5⟩
        · cases hv
      · cases hv
    · cases hv
  · cases hv

theorem bytesOf_vals : ∀ {l : List V} {bs : List UInt8} {vs : List Value}, bytesOf l = some bs → RelVs ι h l vs → ∃ ns : List Int, vs = ns.map (Value.int .u8) ∧ bs = ns.map fun n => UInt8.ofNat n.toNat
  | [], bs, [], hb, _ => by
    simp only [bytesOf, Option.some.injEq] at hb
    exact ⟨[], rfl, by rw [← hb]; rfl⟩
  | u :: l, bs, v :: vs, hb, hr => by
    simp only [RelVs] at hr
    unfold bytesOf at hb
    split at hb
    · rename_i h1; cases h1
    · rename_i n l' h1
      injection h1 with h1 h2
      subst h1 h2
      cases hl : bytesOf l with
      | none => simp [hl] at hb
      | some r =>
        simp only [hl, Option.map_some, Option.some.injEq] at hb
        obtain ⟨ns, h1, h2⟩ := bytesOf_vals hl hr.2
        have h3 := hr.1
        simp only [RelV] at h3
        exact ⟨n :: ns, by rw [h3, h1]; rfl, by rw [← hb, h2]; rfl⟩
    · cases hb
  | [], _, _ :: _, _, hr => by simp [RelVs] at hr
  | _ :: _, _, [], _, hr => by simp [RelVs] at hr

theorem foldl_bytes : ∀ (ns : List Int) (s : ByteArray), ns.foldl (fun r n => r.push (UInt8.ofNat n.toNat)) s = ⟨s.data ++ (ns.map fun n => UInt8.ofNat n.toNat).toArray⟩
  | [], s => by simp
  | n :: ns, s => by
    simp only [List.foldl_cons]
    rw [foldl_bytes ns]
    simp [ByteArray.push]

theorem sim_read {o : Oper} {ρ : Operand → V} {ρ' : Operand → Value} {v : V} (hv : readOp P o.op ρ h = some v) (hr : Rel ι base h w) (hρ : ∀ x, RelV ι h (ρ x) (ρ' x)) :
    ∃ v', (execOp ρ' o).run P w = .ok (.value v') w ∧ RelV ι h v v' := by
  unfold readOp at hv
  split at hv
  · rename_i t a ho
    obtain ⟨v', h1, h2⟩ := sim_readVar hv hr (hρ a)
    unfold execOp
    simp only [ho, Sem.run_bind, h1, Result.andThen_ok]
    exact ⟨_, rfl, h2⟩
  · rename_i s t x ho
    have hx := hρ x
    unfold execOp
    simp only [ho, Sem.run_bind]
    unfold convert
    split at hv
    · rename_i e hs ht
      split at hv
      · rename_i he hxv
        injection hv with hv
        subst hv
        rw [hxv] at hx
        simp only [RelV] at hx
        simp only [hx, Sem.run_bind, r_und hs, r_und ht, r_und he, Result.andThen_ok, Conv.bytesToString]
        exact ⟨_, rfl, by simp only [RelV]; rfl⟩
      · rename_i b off len ver ez lim he hxv
        rw [hxv] at hx
        simp only [RelV] at hx
        obtain ⟨a, cap, hx, k, hk, hg, hez, hlc, hlim, hlo, hle, ha, hc⟩ := hx
        split at hv
        · rename_i l hl
          split at hv
          · rename_i h1
            subst h1
            obtain ⟨vs, h1, h2, h3⟩ := read_ok hr hl ⟨k, hk, hg⟩ hlo (by omega)
            cases hb : bytesOf l with
            | none => simp [hb] at hv
            | some bs =>
              simp only [hb, Option.map_some, Option.some.injEq] at hv
              subst hv
              obtain ⟨ns, rfl, rfl⟩ := bytesOf_vals hb h1
              have hload : (loadCells a len).run P w = .ok (ns.map (Value.int .u8)).toArray w := loads h2 fun i hi => by
                rw [ha (by omega), add_addr]
                exact h3 i hi
              simp only [hx, Sem.run_bind, r_und hs, r_und ht, r_und he, Result.andThen_ok]
              rw [run_bytesToString w a len cap ns hload, foldl_bytes]
              exact ⟨_, rfl, by simp [RelV]⟩
          · cases hv
        · cases hv
      · cases hv
    · cases hv
  · cases hv
end

end Go.Hl
end
section
/-! Hl: what it makes and writes is what the program makes and writes. -/
namespace Go.Hl
open Go.RowKit

/-- What an operation that acts comes to. -/
def Acts (_P : Program) (ι : Map) (base : Nat) (h h' : H) (w : World) (v : V) (r : Result Next) : Prop :=
  ∃ v' w' ι', (r = .ok (.value v') w' ∨ (r = .ok .skip w' ∧ v' = Go.undef)) ∧ RelV ι' h' v v' ∧ Rel ι' base h' w' ∧ Agree ι h ι' h' ∧ Below base w w'

section
variable {P : Program} {ι : Map} {base : Nat} {h : H} {w : World}

theorem new_blk (h : H) (cells : List V) : (h.new cells).blks[h.size]? = some { cells, gen := 0, valid := 0, ro := false } := (H.new_get h cells).2 (.inr ⟨rfl, rfl⟩)

theorem ptr_new {w' : World} {cells : List V} {cend : Nat} : RelV (ι.set h.size 0 ⟨w'.heap.size, 0, 0, cells.length, cend⟩) (h.new cells) (.ptr h.size 0 0 cells.length) (.pointer (some ⟨w'.heap.size, 0, none⟩)) := by
  simp only [RelV]
  rw [Map.set_self]
  exact ⟨⟨_, new_blk h cells, Nat.le_refl _⟩, Nat.le_refl _, Nat.le_refl _, rfl⟩

theorem sl_new {b : Nat} {cells : List V} {len cap esz : Nat} (hez : 0 < esz) (hl : len ≤ cap) (hc : cells.length = len * esz) :
    RelV (ι.set h.size 0 ⟨b, 0, 0, cells.length, cap * esz⟩) (h.new cells) (.sl h.size 0 len 0 esz false) (.slice (some ⟨b, 0, none⟩) len cap) := by
  simp only [RelV]
  refine ⟨⟨b, 0, none⟩, cap, rfl, _, new_blk h cells, Nat.le_refl _, hez, hl, fun h1 => (by cases h1), ?_, ?_, fun _ => ?_, fun _ => ?_⟩
  · rw [Map.set_self]; exact Nat.le_refl _
  · rw [Map.set_self]; simp only; omega
  · rw [Map.set_self]
    rfl
  · rw [Map.set_self]; simp only; omega

theorem below_alloc (hb : base ≤ w.heap.size) (o : Obj) : Below base w (w.alloc o) := (Below.refl base w).alloc hb o

theorem zeros_length (z : List V) : ∀ n, (zeros z n).length = n * z.length
  | 0 => by simp [zeros]
  | n + 1 => by simp [zeros, zeros_length z n, Nat.succ_mul]; omega

theorem zeros_rel {z : List V} {zc : Array Value} (hz : RelVs ι h z zc.toList) : ∀ n : Nat, RelVs ι h (zeros z n) (((Array.range (n * zc.size)).map (zc[· % zc.size]!)).toList) := by
  intro n
  have hlen : z.length = zc.size := by rw [hz.length, Array.length_toList]
  have hget : ∀ (n j : Nat), j < n * z.length → (zeros z n)[j]? = z[j % z.length]? := by
    intro n
    induction n with
    | zero => intro j hj; simp at hj
    | succ n ih =>
      intro j hj
      simp only [zeros]
      by_cases h1 : j < z.length
      · rw [List.getElem?_append_left h1, Nat.mod_eq_of_lt h1]
      · rw [List.getElem?_append_right (by omega), ih (j - z.length) (by rw [Nat.succ_mul] at hj; omega)]
        congr 1
        conv => rhs; rw [show j = j - z.length + z.length by omega, Nat.add_mod_right]
  refine RelVs.of_get (by simp [zeros_length, hlen]) fun j u v hu hv => ?_
  have hj : j < n * z.length := by
    have := (List.getElem?_eq_some_iff.1 hu).1
    rwa [zeros_length] at this
  have hpos : 0 < z.length := by
    rcases Nat.eq_zero_or_pos z.length with h0 | h0
    · rw [h0] at hj; simp at hj
    · exact h0
  rw [hget n j hj] at hu
  obtain ⟨v', hv', hr⟩ := hz.get hu
  have hlt : j % zc.size < zc.size := Nat.mod_lt _ (by omega)
  simp [show j < n * zc.size by rw [← hlen]; exact hj] at hv
  rw [hlen] at hv'
  simp only [Array.getElem?_toList] at hv'
  rw [Array.getElem!_eq_getD, Array.getD_eq_getD_getElem?, hv'] at hv
  simp only [Option.getD_some] at hv
  rw [← hv]
  exact hr

theorem fillA_length {n esz : Nat} : ∀ {parts : List (Nat × V)} {cells res : List V}, pureOp.fillA n esz cells parts = some res → res.length = cells.length
  | [], cells, res, hf => by
    simp only [pureOp.fillA, Option.some.injEq] at hf
    rw [hf]
  | (i, v) :: r, cells, res, hf => by
    simp only [pureOp.fillA] at hf
    split at hf
    · rename_i hc
      rw [fillA_length hf, splice_length _ _ _ (by omega)]
    · cases hf

theorem cells_known {u : V} (hc : u.cells.all V.cellOk = true) : u ≠ .undef := by
  rintro rfl
  simp [V.cells, V.cellOk] at hc

theorem act_alloc {o : Oper} {t : TypeId} {ρ : Operand → V} {ρ' : Operand → Value} {v : V} {h' : H} (ho : o.op = .alloc t) (ha : actOp P o.op ρ h = some (v, h')) (hr : Rel ι base h w) :
    Acts P ι base h h' w v ((execOp ρ' o).run P w) := by
  unfold actOp at ha
  simp only [ho] at ha
  split at ha
  · rename_i i hti
    obtain ⟨I, u, z, hI, hu, hz, hd, hsz, hag, -, hzero⟩ := ti_ok hti
    split at ha
    · injection ha with ha
      injection ha with ha hh
      subst ha hh
      have hrel : RelVs ι h i.zero z.cells.toList := by rw [hzero]; exact ofCells_rel _
      have hl : i.zero.length = z.cells.size := by rw [hrel.length, Array.length_toList]
      unfold execOp
      simp only [ho, Sem.run_bind, Instr.alloc, r_zero hI hz, Result.andThen_ok, newVar, newRow, run_newObj, Sem.run_pure]
      obtain ⟨h1, h2⟩ := new_ok (w' := w.alloc (.cells z.cells t)) (cend := i.zero.length) hr rfl (fun _ _ => by simp) (by rw [List.take_of_length_le (by simp; omega)]; exact hrel) (Nat.le_refl _) (by omega)
      exact ⟨_, w.alloc (.cells z.cells t), _, .inl rfl, ptr_new, h1, h2, below_alloc hr.base _⟩
    · cases ha
  · cases ha

theorem act_box {o : Oper} {t : TypeId} {x : Operand} {ρ : Operand → V} {ρ' : Operand → Value} {v : V} {h' : H} (ho : o.op = .box t x) (ha : actOp P o.op ρ h = some (v, h')) (hr : Rel ι base h w) (hρ : ∀ x, RelV ι h (ρ x) (ρ' x)) :
    Acts P ι base h h' w v ((execOp ρ' o).run P w) := by
  unfold actOp at ha
  simp only [ho] at ha
  split at ha
  · rename_i hok
    injection ha with ha
    injection ha with ha hh
    subst ha hh
    have hrel := cells_rel (hρ x) (cells_known hok)
    have hl : (ρ x).cells.length = (ρ' x).cells.size := by rw [hrel.length, Array.length_toList]
    unfold execOp
    simp only [ho, Sem.run_bind, Instr.box, Result.andThen_ok, newVar, newRow, run_newObj, Sem.run_pure]
    obtain ⟨h1, h2⟩ := new_ok (w' := w.alloc (.cells (ρ' x).cells t)) (cend := (ρ x).cells.length) hr rfl (fun _ _ => by simp) (by rw [List.take_of_length_le (by simp; omega)]; exact hrel) (Nat.le_refl _) (by omega)
    exact ⟨_, w.alloc (.cells (ρ' x).cells t), _, .inl rfl, ptr_new, h1, h2, below_alloc hr.base _⟩
  · cases ha

theorem act_store {o : Oper} {t : TypeId} {a x : Operand} {ρ : Operand → V} {ρ' : Operand → Value} {v : V} {h' : H} (ho : o.op = .store t a x) (ha : actOp P o.op ρ h = some (v, h')) (hr : Rel ι base h w) (hρ : ∀ x, RelV ι h (ρ x) (ρ' x)) :
    Acts P ι base h h' w v ((execOp ρ' o).run P w) := by
  unfold actOp at ha
  simp only [ho] at ha
  split at ha
  · rename_i i hti
    obtain ⟨I, u, z, hI, hu, hz, hd, hsz, hag, -, hzero⟩ := ti_ok hti
    split at ha
    · rename_i b off ver e hpa
      split at ha
      · rename_i hc
        cases hw : h.write b off ver (ρ x).cells with
        | none => simp [hw] at ha
        | some h1 =>
          simp only [hw, Option.map_some, Option.some.injEq, Prod.mk.injEq] at ha
          obtain ⟨rfl, rfl⟩ := ha
          have hpv := hρ a
          rw [hpa] at hpv
          simp only [RelV] at hpv
          obtain ⟨hok, hlo, hn, hpv⟩ := hpv
          obtain ⟨k, hk, hro, hver, hlen, hcok, -, -⟩ := H.write_some hw
          have hrel := cells_rel (hρ x) (cells_known hcok)
          obtain ⟨w1, w2, w3, w4⟩ := write_ok P hr hw hlo hrel
          have hl : (ρ x).cells.length = (ρ' x).cells.size := by rw [hrel.length, Array.length_toList]
          unfold execOp
          simp only [ho, Sem.run_bind, Instr.storeAt, hpv, Instr.sureAddr, Sem.run_pure, Result.andThen_ok]
          unfold storeVar
          simp only [Sem.run_bind, r_size hI, Result.andThen_ok]
          rw [Sem.run_ite, if_neg (by omega)]
          simp only [w1, Result.andThen_ok]
          exact ⟨_, _, ι, .inr ⟨rfl, rfl⟩, RelV.undef _, w2, w3, w4⟩
      · cases ha
    · cases ha
  · cases ha
end

end Go.Hl
end
section
/-! Hl: what it makes and writes is what the program makes and writes (2). -/
namespace Go.Hl
open Go.RowKit

section
variable {P : Program} {ι : Map} {base : Nat} {h : H} {w : World}

theorem act_buildSlice {o : Oper} {t : TypeId} {len : Nat} {parts : Array (Nat × Operand)} {ρ : Operand → V} {ρ' : Operand → Value} {v : V} {h' : H} (ho : o.op = .buildSlice t len parts) (ha : actOp P o.op ρ h = some (v, h')) (hr : Rel ι base h w) (hρ : ∀ x, RelV ι h (ρ x) (ρ' x)) :
    Acts P ι base h h' w v ((execOp ρ' o).run P w) := by
  unfold actOp at ha
  simp only [ho] at ha
  split at ha
  · cases ha
  rename_i hU
  obtain ⟨hm1, hm2⟩ := parts_rel (ι := ι) (h := h) hρ parts
  split at ha
  · rename_i i hti
    obtain ⟨I, u, z, hI, hu, hz, hd, -, -, -, -⟩ := ti_ok hti
    split at ha
    · rename_i e esz eb hfs
      rw [hfs] at hd
      obtain ⟨rfl, E, hE, hEs, hEb⟩ := tyOf_slice hd
      split at ha
      · rename_i j htj
        obtain ⟨J, ju, jz, hJ, hju, hjz, hjd, hjs, -, -, hjzero⟩ := ti_ok htj
        rw [hE] at hJ
        injection hJ with hJ
        subst hJ
        have hjrel : RelVs ι h j.zero jz.cells.toList := by rw [hjzero]; exact ofCells_rel _
        have hjl : j.zero.length = jz.cells.size := by rw [hjrel.length, Array.length_toList]
        split at ha
        · rename_i hc
          obtain ⟨hc1, hc2, hc3⟩ := hc
          split at ha
          · rename_i cells hcells
            split at ha
            · rename_i hok
              injection ha with ha
              injection ha with ha hh
              subst ha hh
              have hlen : cells.length = len * esz := by rw [fillA_length hcells, zeros_length, hc2]
              have hzr : RelVs ι h (zeros j.zero len) (((Array.range (len * esz)).map (jz.cells[· % jz.cells.size]!)).toList) := by
                have := zeros_rel hjrel len
                have hjz' : jz.cells.size = esz := by omega
                rw [show len * esz = len * jz.cells.size by rw [hjz']]
                exact this
              obtain ⟨res, hr1, hr2⟩ := fillA_rel (n := len) hcells hzr hm1 hm2 (parts_known hU)
              have hrl : cells.length = res.size := by rw [hr2.length, Array.length_toList]
              unfold execOp
              simp only [ho, Sem.run_bind, Instr.buildSlice, r_und hu, Result.andThen_ok, r_size hE, hEs, Sem.run_ite]
              rw [if_neg (by omega)]
              obtain ⟨h1, h2⟩ := new_ok (cells := cells) (w' := w.alloc (.cells res e)) (cend := len * esz) hr rfl (fun _ _ => by simp) (by rw [List.take_of_length_le (by simp; omega)]; exact hr2) (by omega) (by omega)
              by_cases h0 : len * esz = 0
              · rw [if_pos h0]
                have hrange : ((Array.range (len * esz)).map ((#[] : Array Value)[· % (#[] : Array Value).size]!)) = ((Array.range (len * esz)).map (jz.cells[· % jz.cells.size]!)) := by rw [h0]; simp
                simp only [Sem.run_pure, Result.andThen_ok]
                rw [hrange, hr1]
                simp only [Sem.run_bind, Sem.run_pure, Result.andThen_ok, newRow, run_newObj]
                exact ⟨_, w.alloc (.cells res e), _, .inl rfl, sl_new hc3 (Nat.le_refl _) hlen, h1, h2, below_alloc hr.base _⟩
              · rw [if_neg h0]
                simp only [r_zero hE hjz, Sem.run_pure, Result.andThen_ok]
                rw [hr1]
                simp only [Sem.run_bind, Sem.run_pure, Result.andThen_ok, newRow, run_newObj]
                exact ⟨_, w.alloc (.cells res e), _, .inl rfl, sl_new hc3 (Nat.le_refl _) hlen, h1, h2, below_alloc hr.base _⟩
            · cases ha
          · cases ha
        · cases ha
      · cases ha
    · cases ha
  · cases ha

theorem act_bytes {o : Oper} {s t : TypeId} {x : Operand} {ρ : Operand → V} {ρ' : Operand → Value} {v : V} {h' : H} (ho : o.op = .convert s t x) (ha : actOp P o.op ρ h = some (v, h')) (hr : Rel ι base h w) (hρ : ∀ x, RelV ι h (ρ x) (ρ' x)) :
    Acts P ι base h h' w v ((execOp ρ' o).run P w) := by
  unfold actOp at ha
  simp only [ho] at ha
  have hx := hρ x
  split at ha
  · rename_i i hs hti
    obtain ⟨I, u, z, hI, hu, hz, hd, -, -, -, -⟩ := ti_ok hti
    split at ha
    · rename_i e l hfs hl
      rw [hfs] at hd
      obtain ⟨rfl, E, hE, hEs, hEb⟩ := tyOf_slice hd
      rw [hl] at hx
      simp only [RelV] at hx
      split at ha
      · rename_i he
        injection ha with ha
        injection ha with ha hh
        subst ha hh
        have hrun := run_bytes_of_string (P := P) w s t e ⟨l.toArray⟩ hs hu he
        unfold execOp
        simp only [ho, Sem.run_bind, hx, hrun, Result.andThen_ok, Sem.run_pure]
        rw [ba_size]
        generalize hg : grownCap w l.length 0 e = cap
        have hcap : l.length ≤ cap := hg ▸ grownCap_ge _ _ _ _
        have hsz : (bytesRow ⟨l.toArray⟩ cap).size = cap := by simp [bytesRow, ba_size]; omega
        have hlen : (byteCells l).length = l.length := by simp [byteCells]
        have hrel : RelVs ι h (byteCells l) ((bytesRow ⟨l.toArray⟩ cap).toList.take (byteCells l).length) := by
          refine RelVs.of_get (by simp [hlen, hsz]; omega) fun j a b hj hb => ?_
          have hlt : j < l.length := by
            have := (List.getElem?_eq_some_iff.1 hj).1
            omega
          rw [List.getElem?_take, if_pos (by omega)] at hb
          simp [byteCells, hlt] at hj
          simp only [bytesRow, Array.toList_append, Array.toList_map] at hb
          rw [List.getElem?_append_left (by simpa using hlt)] at hb
          simp [hlt] at hb
          rw [← hj, ← hb]
          simp [RelV]
        obtain ⟨h1, h2⟩ := new_ok (w := w) (w' := w.drew.alloc (.cells (bytesRow ⟨l.toArray⟩ cap) e ((bytesRow ⟨l.toArray⟩ cap).size, (bytesRow ⟨l.toArray⟩ cap).size + 1))) (cend := cap * 1) hr rfl
          (fun i hi => by simp only; omega) hrel (by rw [hlen]; omega) (by rw [hsz]; omega)
        refine ⟨_, _, _, .inl rfl, ?_, h1, h2, ((Below.refl base w).drew).alloc hr.base _⟩
        exact sl_new (by omega) hcap (by rw [hlen]; omega)
      · cases ha
    · cases ha
  · cases ha

/-! ### append -/
theorem source_rel {esz m : Nat} {u : V} {v : Value} {ys : List V} (hs : sourceOf h esz u = some (m, ys)) (hr : Rel ι base h w) (hu : RelV ι h u v) :
    ∃ vs : List Value, (Builtin.lenOf v).run P w = .ok m w ∧ (Builtin.lenOf v).run P w.drew = .ok m w.drew ∧ (Builtin.firstCells esz m v).run P w = .ok vs.toArray w ∧ (Builtin.firstCells esz m v).run P w.drew = .ok vs.toArray w.drew ∧
      RelVs ι h ys vs ∧ vs.length = m * esz := by
  unfold sourceOf at hs
  split at hs
  · simp only [RelV] at hu
    injection hs with hs
    injection hs with h1 h2
    subst hu h1 h2
    exact ⟨[], rfl, rfl, rfl, rfl, by simp [RelVs], by simp⟩
  · rename_i b off len ver ez lim
    simp only [RelV] at hu
    obtain ⟨a, cap, rfl, k, hk, hg, hez, hlc, hlim, hlo, hle, hadr, hc⟩ := hu
    split at hs
    · rename_i heq
      subst heq
      cases hl : h.read b off ver (len * ez) with
      | none => simp [hl] at hs
      | some l =>
        simp only [hl, Option.map_some, Option.some.injEq, Prod.mk.injEq] at hs
        obtain ⟨rfl, rfl⟩ := hs
        obtain ⟨vs, h1, h2, h3⟩ := read_ok hr hl ⟨k, hk, hg⟩ hlo hle
        have hcell : ∀ j v, vs[j]? = some v → w.cell? (a.add j) = some v := fun j v hv => by
          have hlt := (List.getElem?_eq_some_iff.1 hv).1
          have hl0 : len ≠ 0 := by rintro rfl; rw [Nat.zero_mul] at h2; omega
          rw [hadr (by omega), add_addr, h3 j (by omega)]
          exact hv
        exact ⟨vs, rfl, rfl, run_firstCells_some w ez len a len cap vs h2 hcell, run_firstCells_some w.drew ez len a len cap vs h2 (by simpa using hcell), h1, h2⟩
    · cases hs
  · rename_i s
    simp only [RelV] at hu
    split at hs
    · rename_i h1
      subst h1
      injection hs with hs
      injection hs with h1 h2
      subst hu h1 h2
      refine ⟨s.map fun b => .int .u8 b.toNat, ?_, ?_, ?_, ?_, ?_, by simp⟩
      · simp [Builtin.lenOf, ba_size]
      · simp [Builtin.lenOf, ba_size]
      · simp [Builtin.firstCells, ba_extract]
      · simp [Builtin.firstCells, ba_extract]
      · refine RelVs.of_get (by simp [byteCells]) fun j a b hj hb => ?_
        simp only [byteCells, List.getElem?_map, Option.map_eq_some_iff] at hj hb
        obtain ⟨x, hx, rfl⟩ := hj
        obtain ⟨y, hy, rfl⟩ := hb
        rw [hx] at hy
        injection hy with hy
        subst hy
        simp [RelV]
    · cases hs
  · cases hs
end

end Go.Hl
end
section
/-! Hl: append, make. -/
namespace Go.Hl
open Go.RowKit

section
variable {P : Program} {ι : Map} {base : Nat} {h : H} {w : World}

/-- There is room. -/
theorem append_room {t u ty e : TypeId} {i : TypeInfo} {ud : TypeDesc} {a : Addr} {sLen sCap m : Nat} {x : Value} {vs : List Value} (ht : P.underlying t = some (.slice e)) (hu : P.underlying u = some ud) (hud : isIntD ud = false) (hi : P.info? e = some i)
    (hlen : (Builtin.lenOf x).run P w = .ok m w) (hcells : (Builtin.firstCells i.size m x).run P w = .ok vs.toArray w) (hroom : sLen + m ≤ sCap) :
    (Builtin.append_ #[t, u] ty #[.slice (some a) sLen sCap, x]).run P w = ((storeCells (a.add (sLen * i.size)) vs).run P w).andThen fun _ w' => .ok (.slice (some a) (sLen + m) sCap) w' := by
  unfold Builtin.append_
  cases ud <;> first
    | (cases hud; done)
    | simp only [List.getElem?_toArray, List.getElem?_cons_zero, List.getElem?_cons_succ, Sem.run_bind, r_und ht, r_und hu, r_size hi, Result.andThen_ok, Sem.run_pure, Bool.false_eq_true, if_false, hlen, if_pos hroom, Bool.not_false, if_true, hcells]

/-- Nothing is appended. -/
theorem append_none {t u ty e : TypeId} {i : TypeInfo} {ud : TypeDesc} {base : Option Addr} {sLen sCap : Nat} {x : Value} {vs : List Value} (ht : P.underlying t = some (.slice e)) (hu : P.underlying u = some ud) (hud : isIntD ud = false) (hi : P.info? e = some i)
    (hlen : (Builtin.lenOf x).run P w = .ok 0 w) (hcells : (Builtin.firstCells i.size 0 x).run P w = .ok vs.toArray w) (hv : vs = []) (hroom : sLen ≤ sCap) :
    (Builtin.append_ #[t, u] ty #[.slice base sLen sCap, x]).run P w = .ok (.slice base sLen sCap) w := by
  subst hv
  unfold Builtin.append_
  cases ud <;> first
    | (cases hud; done)
    | (simp only [List.getElem?_toArray, List.getElem?_cons_zero, List.getElem?_cons_succ, Sem.run_bind, r_und ht, r_und hu, r_size hi, Result.andThen_ok, Sem.run_pure, Bool.false_eq_true, if_false, hlen, Nat.add_zero, if_pos hroom, Bool.not_false, if_true, hcells]
       cases base <;> simp [storeCells])

/-- There is none. -/
theorem append_away {t u ty e : TypeId} {i : TypeInfo} {z : Value} {ud : TypeDesc} {base : Option Addr} {sLen sCap m : Nat} {x : Value} {os vs : List Value} (ht : P.underlying t = some (.slice e)) (hu : P.underlying u = some ud) (hud : isIntD ud = false)
    (hi : P.info? e = some i) (hz : i.zero = some z)
    (hlen : (Builtin.lenOf x).run P w = .ok m w) (hold : (Builtin.firstCells i.size sLen (.slice base sLen sCap)).run P w.drew = .ok os.toArray w.drew) (hcells : (Builtin.firstCells i.size m x).run P w.drew = .ok vs.toArray w.drew)
    (hroom : sCap < sLen + m) (h63 : sLen + m ≤ 70368744177664) (h48 : (sLen + m) * i.bytes ≤ 70368744177664) :
    (Builtin.append_ #[t, u] ty #[.slice base sLen sCap, x]).run P w = .ok (.slice (some ⟨w.heap.size, 0, none⟩) (sLen + m) (grownCap w (sLen + m) sCap e))
      (w.drew.alloc (.cells (os.toArray ++ vs.toArray ++ Builtin.zeroCells z.cells (grownCap w (sLen + m) sCap e - (sLen + m))) e)) := by
  have h1 : ¬ (sLen + m ≤ sCap) := by omega
  have hmx : IntKind.i64.max = 9223372036854775807 := rfl
  have h2 : ¬ (((sLen + m : Nat) : Int) > IntKind.i64.max ∧ (False ∨ i.bytes = 0)) := by rw [hmx]; omega
  have hcap := nextslicecap_le hroom
  have h3 : ¬ (Builtin.nextslicecap (sLen + m) sCap * i.bytes > 2 ^ 48) := by
    have := Nat.mul_le_mul_right i.bytes hcap
    have e1 : 2 * (sLen + m) * i.bytes = 2 * ((sLen + m) * i.bytes) := Nat.mul_assoc _ _ _
    omega
  unfold Builtin.append_
  cases ud <;> first
    | (cases hud; done)
    | (simp only [List.getElem?_toArray, List.getElem?_cons_zero, List.getElem?_cons_succ, Sem.run_bind, r_und ht, r_und hu, r_size hi, r_info hi, Result.andThen_ok, Sem.run_pure, Bool.false_eq_true, if_false, hlen, if_neg h1, if_neg h2, if_neg h3, Bool.not_false, if_true]
       simp [hold, hcells, r_zero hi hz, Question.forced, newRow, grownCap]
       congr 2
       apply Array.ext'
       simp [List.append_assoc])

theorem zeroCells_size (z : Array Value) (n : Nat) : (Builtin.zeroCells z n).size = n * z.size := by simp [Builtin.zeroCells]

theorem fit_rel {us : List V} {vs : List Value} {C : Array Value} (hr : RelVs ι h us vs) (rest : Array Value) (hC : C = vs.toArray ++ rest) : RelVs ι h us (C.toList.take us.length) := by
  rw [hC, hr.length]
  simp only [Array.toList_append, List.take_left]
  exact hr

theorem act_append {o : Oper} {c : Call} {ρ : Operand → V} {ρ' : Operand → Value} {v : V} {h' : H} (ho : o.op = .call c) (hcal : c.callee = .builtin .append) (ha : actOp P o.op ρ h = some (v, h')) (hr : Rel ι base h w) (hρ : ∀ x, RelV ι h (ρ x) (ρ' x)) :
    Acts P ι base h h' w v ((execOp ρ' o).run P w) := by
  obtain ⟨callee, args, argTypes⟩ := c
  simp only at hcal
  subst hcal
  unfold actOp at ha
  simp only [ho] at ha
  have hres : (execOp ρ' o).run P w = ((Builtin.append_ argTypes o.type (args.map ρ')).run P w).andThen fun a w' => .ok (.value a) w' := by
    unfold execOp resolve invoke builtin
    simp only [ho, Sem.run_bind, Sem.run_pure, Result.andThen_ok]
  rw [hres]
  split at ha
  · rename_i s x t u hargs hats
    obtain ⟨args⟩ := args
    obtain ⟨argTypes⟩ := argTypes
    simp only at hargs hats
    subst hargs hats
    simp only [List.map_toArray, List.map_cons, List.map_nil]
    have hsv := hρ s
    split at ha
    · rename_i i hti
      obtain ⟨I, ut, z0, hI, hut, -, hd, -, -, -, -⟩ := ti_ok hti
      split at ha
      · rename_i e esz eb d hfs hud
        rw [hfs] at hd
        obtain ⟨rfl, E, hE, hEs, hEb⟩ := tyOf_slice hd
        split at ha
        · cases ha
        rename_i hnint
        have hnint : isIntD d = false := by simpa using hnint
        split at ha
        · rename_i j m ys hti' hsrc
          split at ha
          · cases ha
          rename_i hjz
          have hjz : j.zero.length = esz := by omega
          obtain ⟨vs, k1, k2, k3, k4, k5, k6⟩ := source_rel (P := P) hsrc hr (hρ x)
          rw [← hEs] at k3 k4
          split at ha
          · rename_i hm
            subst hm
            have hvs : vs = [] := List.eq_nil_of_length_eq_zero (by rw [k6, Nat.zero_mul])
            split at ha
            · rename_i hs
              injection ha with ha
              injection ha with ha hh
              subst ha hh
              rw [hs] at hsv
              simp only [RelV] at hsv
              rw [hsv, append_none hut hud hnint hE k1 k3 hvs (Nat.le_refl _)]
              exact ⟨_, w, ι, .inl rfl, by simp [RelV], hr, Agree.refl _ _, Below.refl _ _⟩
            · rename_i b off len ver ez lim hs
              injection ha with ha
              injection ha with ha hh
              subst ha hh
              rw [hs] at hsv
              have hsv' := hsv
              simp only [RelV] at hsv
              obtain ⟨a, cap, hsv, k, hk, hg, hez, hlc, hrest⟩ := hsv
              rw [hsv, append_none hut hud hnint hE k1 k3 hvs hlc]
              exact ⟨_, w, ι, .inl rfl, hsv ▸ hsv', hr, Agree.refl _ _, Below.refl _ _⟩
            · cases ha
          · rename_i hm
            split at ha
            · rename_i hb
              obtain ⟨hb1, hb2, hb3⟩ := hb
              have hbase := hr.base
              unfold appendTo at ha
              -- the zero of the element's type
              obtain ⟨J, ju, z, hJ, hju, hz, -, -, -, -, hjzero⟩ := ti_ok hti'
              rw [hE] at hJ
              injection hJ with hJ
              subst hJ
              have hzs : z.cells.size = esz := by rw [← hjz, hjzero]; simp
              split at ha
              · rename_i hs
                rw [hs] at hsv hb2 hb3
                simp only [RelV] at hsv
                simp only [lenV, Nat.zero_add] at hb2 hb3
                split at ha
                · injection ha with ha
                  injection ha with ha hh
                  subst ha hh
                  rw [hsv, append_away (os := []) hut hud hnint hE hz k1 (run_firstCells_none _ _ _ _ _) k4 (by omega) (by omega) (by rw [hEb]; simpa using hb2)]
                  simp only [Result.andThen_ok, Nat.zero_add]
                  generalize hgc : grownCap w m 0 e = cap
                  have hcap : m ≤ cap := hgc ▸ grownCap_ge _ _ _ _
                  have hyl : ys.length = m * esz := by rw [k5.length, k6]
                  have hm1 : m * esz + (cap - m) * esz = cap * esz := by rw [← Nat.add_mul]; congr 1; omega
                  have hsz : (([] : List Value).toArray ++ vs.toArray ++ Builtin.zeroCells z.cells (cap - m)).size = cap * esz := by
                    simp [zeroCells_size, k6, hzs, hm1]
                  obtain ⟨h1, h2⟩ := new_ok (cells := ys) (w' := w.drew.alloc (.cells (([] : List Value).toArray ++ vs.toArray ++ Builtin.zeroCells z.cells (cap - m)) e)) (cend := cap * esz) hr rfl (fun _ _ => by simp)
                    (fit_rel k5 (Builtin.zeroCells z.cells (cap - m)) (by simp)) (by omega) (by omega)
                  exact ⟨_, _, _, .inl rfl, sl_new hb1 hcap hyl, h1, h2, ((Below.refl base w).drew).alloc hr.base _⟩
                · cases ha
              · rename_i b off len ver ez hs
                rw [hs] at hsv hb2 hb3
                simp only [RelV] at hsv
                simp only [lenV] at hb2 hb3
                obtain ⟨a, cap0, hsv, k, hk, hg, hez, hlc, hlim, hlo, hle, hadr, hce⟩ := hsv
                have hcl := hlim rfl
                subst hcl
                split at ha
                · rename_i old hold
                  split at ha
                  · rename_i hok
                    obtain ⟨hok, rfl⟩ := hok
                    injection ha with ha
                    injection ha with ha hh
                    subst ha hh
                    obtain ⟨vo, o1, o2, o3⟩ := read_ok hr hold ⟨k, hk, hg⟩ hlo hle
                    have hcello : ∀ j v, vo[j]? = some v → w.cell? (a.add j) = some v := fun j v hv => by
                      have hlt := (List.getElem?_eq_some_iff.1 hv).1
                      have hl0 : cap0 ≠ 0 := by rintro rfl; rw [Nat.zero_mul] at o2; omega
                      rw [hadr hl0, add_addr, o3 j (by omega)]
                      exact hv
                    have holdr := run_firstCells_some (P := P) w.drew E.size cap0 a cap0 cap0 vo (by rw [hEs]; exact o2) (by simpa using hcello)
                    rw [hsv, append_away (os := vo) hut hud hnint hE hz k1 holdr k4 (by omega) (by omega) (by rw [hEb]; exact hb2)]
                    simp only [Result.andThen_ok]
                    generalize hgc : grownCap w (cap0 + m) cap0 e = cap
                    have hcap : cap0 + m ≤ cap := hgc ▸ grownCap_ge _ _ _ _
                    have hall : RelVs ι h (old ++ ys) (vo ++ vs) := o1.append k5
                    have hyl : (old ++ ys).length = (cap0 + m) * ez := by rw [hall.length, List.length_append, o2, k6, Nat.add_mul]
                    have hm1 : (cap0 + m) * ez + (cap - (cap0 + m)) * ez = cap * ez := by rw [← Nat.add_mul]; congr 1; omega
                    have hsz : (vo.toArray ++ vs.toArray ++ Builtin.zeroCells z.cells (cap - (cap0 + m))).size = cap * ez := by
                      simp [zeroCells_size, k6, o2, hzs]
                      rw [← hm1, Nat.add_mul]
                    obtain ⟨h1, h2⟩ := new_ok (cells := old ++ ys) (w' := w.drew.alloc (.cells (vo.toArray ++ vs.toArray ++ Builtin.zeroCells z.cells (cap - (cap0 + m))) e)) (cend := cap * ez) hr rfl (fun _ _ => by simp)
                      (fit_rel hall (Builtin.zeroCells z.cells (cap - (cap0 + m))) (by simp)) (by omega) (by omega)
                    exact ⟨_, _, _, .inl rfl, sl_new hb1 hcap hyl, h1, h2, ((Below.refl base w).drew).alloc hr.base _⟩
                  · cases ha
                · cases ha
              · rename_i b off len ver ez hs
                rw [hs] at hsv hb2 hb3
                simp only [RelV] at hsv
                simp only [lenV] at hb2 hb3
                obtain ⟨a, cap0, hsv, k, hk, hg, hez, hlc, hlim, hlo, hle, hadr, hce⟩ := hsv
                have hce := hce rfl
                rw [hk] at ha
                simp only at ha
                have hbk := hr.blk b k hk
                have htop := hbk.top
                split at ha
                · rename_i heq
                  subst heq
                  split at ha
                  · rename_i hend
                    cases hgw : h.grow b ver ys with
                    | none => simp [hgw] at ha
                    | some h1 =>
                      simp only [hgw, Option.map_some, Option.some.injEq, Prod.mk.injEq] at ha
                      obtain ⟨rfl, rfl⟩ := ha
                      obtain ⟨k', hk', hro, hver, hok, hblks, -⟩ := H.grow_some hgw
                      rw [hk] at hk'
                      injection hk' with hk'
                      subst hk'
                      subst hver
                      have hends := hbk.ends k.gen (Nat.le_refl _)
                      have hyl : ys.length = m * ez := by rw [k5.length, k6]
                      have hnew : h1.blks[b]? = some { k with cells := k.cells ++ ys, gen := k.gen + 1 } := by rw [hblks]; exact (set_get _ hk).2 (.inl ⟨rfl, rfl⟩)
                      have hlm : off + (len + m) * ez = k.cells.length + ys.length := by rw [Nat.add_mul]; omega
                      by_cases hroom : len + m ≤ cap0
                      · have hcm : (len + m) * ez ≤ cap0 * ez := Nat.mul_le_mul_right _ hroom
                        have ha0 := hadr (by omega)
                        obtain ⟨g1, g2, g3⟩ := grow_here P hr hgw k5 hk (by omega)
                        rw [hsv, append_room hut hud hnint hE k1 k3 hroom]
                        rw [ha0, add_addr]
                        rw [show (ι b k.gen).r + (off - (ι b k.gen).lo) + len * E.size = (ι b k.gen).r + (k.cells.length - (ι b k.gen).lo) by rw [hEs]; omega]
                        rw [g1]
                        simp only [Result.andThen_ok]
                        refine ⟨_, _, _, .inl rfl, ?_, g2, agree_grow hgw _, g3⟩
                        simp only [RelV]
                        refine ⟨_, cap0, rfl, _, hnew, Nat.le_refl _, hez, hroom, fun hx => (by cases hx), ?_, ?_, fun _ => ?_, fun _ => ?_⟩
                        · rw [Map.set_self]; exact hlo
                        · rw [Map.set_self]; simp only; omega
                        · rw [Map.set_self]
                        · rw [Map.set_self]; exact hce
                      · obtain ⟨vo, o1, o2, o3⟩ := read_ok (n := len * ez) hr (show h.read b off k.gen (len * ez) = some ((k.cells.drop off).take (len * ez)) by unfold H.read; rw [hk]; simp only; rw [if_pos ⟨hbk.val, Nat.le_refl _⟩]) ⟨k, hk, hg⟩ hlo hle
                        have hcello : ∀ j v, vo[j]? = some v → w.cell? (a.add j) = some v := fun j v hv => by
                          have hlt := (List.getElem?_eq_some_iff.1 hv).1
                          have hl0 : cap0 ≠ 0 := by
                            rintro rfl
                            have : len = 0 := by omega
                            subst this
                            rw [Nat.zero_mul] at o2
                            omega
                          rw [hadr hl0, add_addr, o3 j (by omega)]
                          exact hv
                        have holdr := run_firstCells_some (P := P) w.drew E.size len a len cap0 vo (by rw [hEs]; exact o2) (by simpa using hcello)
                        rw [hsv, append_away (os := vo) hut hud hnint hE hz k1 holdr k4 (by omega) (by omega) (by rw [hEb]; exact hb2)]
                        simp only [Result.andThen_ok]
                        generalize hgc : grownCap w (len + m) cap0 e = cap
                        have hcap : len + m ≤ cap := hgc ▸ grownCap_ge _ _ _ _
                        have htake : (k.cells.drop off).take (len * ez) = k.cells.drop off := List.take_of_length_le (by simp; omega)
                        rw [htake] at o1
                        have hall : RelVs ι h (k.cells.drop off ++ ys) (vo ++ vs) := o1.append k5
                        have hm1 : (len + m) * ez + (cap - (len + m)) * ez = cap * ez := by rw [← Nat.add_mul]; congr 1; omega
                        have hsz : (vo.toArray ++ vs.toArray ++ Builtin.zeroCells z.cells (cap - (len + m))).size = cap * ez := by
                          simp [zeroCells_size, k6, o2, hzs]
                          rw [← hm1, Nat.add_mul]
                        have hg2 := grow_away (w' := w.drew.alloc (.cells (vo.toArray ++ vs.toArray ++ Builtin.zeroCells z.cells (cap - (len + m))) e)) (off := off) (cend := off + cap * ez) hr hgw hk (by omega) rfl
                          (by have := fit_rel hall _ (show (vo.toArray ++ vs.toArray ++ Builtin.zeroCells z.cells (cap - (len + m))) = (vo ++ vs).toArray ++ Builtin.zeroCells z.cells (cap - (len + m)) by simp)
                              rwa [show (k.cells.drop off ++ ys).length = k.cells.length - off + ys.length by simp] at this) (by omega) (by omega)
                        refine ⟨_, _, _, .inl rfl, ?_, hg2, agree_grow hgw _, ((Below.refl base w).drew).alloc hr.base _⟩
                        simp only [RelV]
                        refine ⟨_, cap, rfl, _, hnew, Nat.le_refl _, hez, hcap, fun hx => (by cases hx), ?_, ?_, fun _ => ?_, fun _ => ?_⟩
                        · rw [Map.set_self]; exact Nat.le_refl _
                        · rw [Map.set_self]; simp only; omega
                        · rw [Map.set_self]; simp
                        · rw [Map.set_self]
                  · split at ha
                    · rename_i hin
                      cases hgw : h.write b (off + len * ez) ver ys with
                      | none => simp [hgw] at ha
                      | some h1 =>
                        simp only [hgw, Option.map_some, Option.some.injEq, Prod.mk.injEq] at ha
                        obtain ⟨rfl, rfl⟩ := ha
                        obtain ⟨k', hk', hro, hver, hlen, hok, hblks, -⟩ := H.write_some hgw
                        rw [hk] at hk'
                        injection hk' with hk'
                        subst hk'
                        subst hver
                        have hends := hbk.ends k.gen (Nat.le_refl _)
                        have hcend := hends.2 hro
                        have hyl : ys.length = m * ez := by rw [k5.length, k6]
                        have hroom : len + m ≤ cap0 := by
                          have h1 : (len + m) * ez ≤ cap0 * ez := by omega
                          exact Nat.le_of_mul_le_mul_right h1 hez
                        have ha0 := hadr (by omega)
                        obtain ⟨g1, g2, g3, g4⟩ := write_ok P hr hgw (by omega) k5
                        rw [hsv, append_room hut hud hnint hE k1 k3 hroom]
                        rw [ha0, add_addr]
                        rw [show (ι b k.gen).r + (off - (ι b k.gen).lo) + len * E.size = (ι b k.gen).r + (off + len * ez - (ι b k.gen).lo) by rw [hEs]; omega]
                        rw [g1]
                        simp only [Result.andThen_ok]
                        refine ⟨_, _, ι, .inl rfl, ?_, g2, g3, g4⟩
                        simp only [RelV]
                        exact ⟨_, cap0, rfl, { k with cells := splice k.cells (off + len * ez) ys, valid := k.gen }, by rw [hblks]; exact (set_get _ hk).2 (.inl ⟨rfl, rfl⟩), Nat.le_refl _, hez, hroom, fun hx => (by cases hx), hlo, by omega, fun _ => rfl, fun _ => hce⟩
                    · cases ha
                · cases ha
              · cases ha
            · cases ha
        · cases ha
      · cases ha
    · cases ha
  · cases ha
end

end Go.Hl
end
section
/-! Hl: an operation, operations in the order of the text. -/
namespace Go.Hl
open Go.RowKit

section
variable {P : Program} {ι : Map} {base : Nat} {h : H} {w : World}

theorem act_make {o : Oper} {t : TypeId} {l c : Operand} {ρ : Operand → V} {ρ' : Operand → Value} {v : V} {h' : H} (ho : o.op = .makeSlice t l c) (ha : actOp P o.op ρ h = some (v, h')) (hr : Rel ι base h w) (hρ : ∀ x, RelV ι h (ρ x) (ρ' x)) :
    Acts P ι base h h' w v ((execOp ρ' o).run P w) := by
  unfold actOp at ha
  simp only [ho] at ha
  split at ha
  · rename_i i hti
    obtain ⟨I, u, z, hI, hu, hz, hd, -, -, -, -⟩ := ti_ok hti
    split at ha
    · rename_i e esz eb hfs
      rw [hfs] at hd
      obtain ⟨rfl, E, hE, hEs, hEb⟩ := tyOf_slice hd
      split at ha
      · rename_i j htj
        obtain ⟨J, ju, jz, hJ, hju, hjz, hjd, hjs, -, -, hjzero⟩ := ti_ok htj
        rw [hE] at hJ
        injection hJ with hJ
        subst hJ
        have hjrel : RelVs ι h j.zero jz.cells.toList := by rw [hjzero]; exact ofCells_rel _
        have hjl : j.zero.length = jz.cells.size := by rw [hjrel.length, Array.length_toList]
        split at ha
        · rename_i k n k' m hl hc
          split at ha
          · rename_i hcond
            obtain ⟨c1, c2, c3, c4, c5, c6, c7⟩ := hcond
            injection ha with ha
            injection ha with ha hh
            subst ha hh
            have h1 := int_of (hρ l) hl
            have h2 := int_of (hρ c) hc
            have hrun := run_make (P := P) w t e E jz hu hE hjz k k' n m c1 c2 (by rw [hEb]; have : (eb : Int) * m = m * eb := Int.mul_comm _ _; omega) (by omega)
            unfold execOp
            simp only [ho, Sem.run_bind, h1, h2, hrun, Result.andThen_ok, Sem.run_pure]
            have hzr := zeros_rel hjrel n.toNat
            have hjz' : jz.cells.size = esz := by omega
            have hlen : (zeros j.zero n.toNat).length = n.toNat * esz := by rw [zeros_length, c5]
            have hnm : n.toNat * esz ≤ m.toNat * esz := Nat.mul_le_mul_right _ (by omega)
            have hsz : (madeCells jz.cells (m.toNat * E.size)).size = m.toNat * esz := by rw [size_madeCells, hEs]
            obtain ⟨g1, g2⟩ := new_ok (cells := zeros j.zero n.toNat) (w' := w.alloc (.cells (madeCells jz.cells (m.toNat * E.size)) e)) (cend := m.toNat * esz) hr rfl (fun _ _ => by simp)
              (by
                refine RelVs.of_get (by rw [List.length_take, hlen, Array.length_toList, hsz]; omega) fun jj a b ha hb => ?_
                have hjj : jj < n.toNat * esz := by
                  have := (List.getElem?_eq_some_iff.1 ha).1
                  omega
                obtain ⟨b', hb', hrel⟩ := hzr.get ha
                rw [List.getElem?_take, if_pos (by omega)] at hb
                simp [madeCells, hEs, show jj < m.toNat * esz by omega] at hb
                rw [hjz'] at hb'
                simp [show jj < n.toNat * esz by omega] at hb'
                rw [hjz'] at hb
                rw [← hb, hb']
                exact hrel) (by omega) (by omega)
            exact ⟨_, _, _, .inl rfl, sl_new c6 (by omega) hlen, g1, g2, below_alloc hr.base _⟩
          · cases ha
        · cases ha
      · cases ha
    · cases ha
  · cases ha

theorem sim_act {o : Oper} {ρ : Operand → V} {ρ' : Operand → Value} {v : V} {h' : H} (ha : actOp P o.op ρ h = some (v, h')) (hr : Rel ι base h w) (hρ : ∀ x, RelV ι h (ρ x) (ρ' x)) :
    Acts P ι base h h' w v ((execOp ρ' o).run P w) := by
  cases ho : o.op with
  | alloc t => exact act_alloc ho ha hr
  | box t x => exact act_box ho ha hr hρ
  | store t a x => exact act_store ho ha hr hρ
  | buildSlice t len parts => exact act_buildSlice ho ha hr hρ
  | makeSlice t l c => exact act_make ho ha hr hρ
  | convert s t x => exact act_bytes ho ha hr hρ
  | call c =>
    obtain ⟨callee, args, argTypes⟩ := c
    cases callee with
    | builtin b =>
      cases b with
      | append => exact act_append ho rfl ha hr hρ
      | _ => rw [ho] at ha; simp [actOp] at ha
    | _ => rw [ho] at ha; simp [actOp] at ha
  | _ => rw [ho] at ha; simp [actOp] at ha

def EnvRel (ι : Map) (h : H) (e : Env) (tmps : Array Value) : Prop := e.length = tmps.size ∧ ∀ t : Nat, RelV ι h (e.getD t .undef) (tmps.getD t Go.undef)

theorem EnvRel.step {ι' : Map} {h' : H} {e : Env} {tmps : Array Value} (ha : Agree ι h ι' h') (hr : EnvRel ι h e tmps) : EnvRel ι' h' e tmps := ⟨hr.1, fun t => (hr.2 t).step ha⟩

theorem EnvRel.put {e : Env} {a : Act} (hr : EnvRel ι h e a.tmps) (d : Option Tmp) {v : V} {v' : Value} (hv : RelV ι h v v') : EnvRel ι h (Hl.put e d v) (a.put d v').tmps := by
  cases d with
  | none => exact hr
  | some d =>
    refine ⟨by simp [Hl.put, Act.put, hr.1], fun t => ?_⟩
    simp only [Hl.put, Act.put]
    by_cases hd : d = t
    · subst hd
      by_cases hlt : d < e.length
      · have : d < a.tmps.size := hr.1 ▸ hlt
        simp [List.getD, Array.getD, hlt, this]
        exact hv
      · have : ¬ d < a.tmps.size := hr.1 ▸ hlt
        have h1 := hr.2 d
        simpa [List.getD, Array.getD, hlt, this] using h1
    · have h1 := hr.2 t
      simp only [List.getD, List.getElem?_set_ne hd]
      rw [Array.getD_eq_getD_getElem?, Array.getElem?_setIfInBounds_ne hd, ← Array.getD_eq_getD_getElem?]
      exact h1

theorem eval_rel {e : Env} {a : Act} (hr : EnvRel ι h e a.tmps) : ∀ x, RelV ι h (ev e x) (a.eval x) := by
  intro x
  cases x with
  | tmp t => exact hr.2 t
  | const v => exact ofVal_rel v
  | global g => exact RelV.undef _
  | func f =>
    simp only [ev, Act.eval, RelV]
    exact ⟨#[], #[], rfl, by simp [RelVs], by simp [RelVs]⟩

/-- The calls' contracts. -/
def CallsOk (call : CallT) (P : Program) : Prop :=
  ∀ f args h v h', call f args h = some (v, h') → (∃ fn, P.funcs[f]? = some fn ∧ (fn.name == "runtime.NumGoroutine") = false ∧ fn.body.isNone = false) ∧
    ∀ ι base w (args' : List Value), RelVs ι h args args' → Rel ι base h w →
      Calls P f args'.toArray w fun en w' => ∃ v' ι', en = .returned v' ∧ RelV ι' h' v v' ∧ Rel ι' base h' w' ∧ Agree ι h ι' h' ∧ Below base w w'

/-- One operation. -/
theorem step_wp {call : CallT} (hcall : CallsOk call P) {o : Oper} {e : Env} {a : Act} {v : V} {h' : H} {K : Act → World → Prop} {Q : Exit → Act → World → Prop} (hs : Hl.step call P o (ev e) h = some (v, h'))
    (he : EnvRel ι h e a.tmps) (hr : Rel ι base h w)
    (hK : ∀ v' w' ι', RelV ι' h' v v' → Rel ι' base h' w' → Agree ι h ι' h' → Below base w w' → K (a.put o.dst v') w') : o.wp P a w K Q := by
  have hρ := eval_rel he
  unfold Hl.step at hs
  unfold Oper.wp
  split at hs
  · cases hp : pureOp P o (ev e) with
    | none => simp [hp] at hs
    | some u =>
      simp only [hp, Option.map_some, Option.some.injEq, Prod.mk.injEq] at hs
      obtain ⟨rfl, rfl⟩ := hs
      obtain ⟨v', h1, h2⟩ := sim_pure (w := w) hp hρ
      rw [h1]
      exact hK v' w ι h2 hr (Agree.refl _ _) (Below.refl _ _)
  · cases hp : readOp P o.op (ev e) h with
    | none => simp [hp] at hs
    | some u =>
      simp only [hp, Option.map_some, Option.some.injEq, Prod.mk.injEq] at hs
      obtain ⟨rfl, rfl⟩ := hs
      obtain ⟨v', h1, h2⟩ := sim_read hp hr hρ
      rw [h1]
      exact hK v' w ι h2 hr (Agree.refl _ _) (Below.refl _ _)
  · obtain ⟨v', w', ι', h1, h2, h3, h4, h5⟩ := sim_act hs hr hρ
    rcases h1 with h1 | ⟨h1, rfl⟩
    · rw [h1]
      exact hK v' w' ι' h2 h3 h4 h5
    · rw [h1]
      exact hK _ w' ι' h2 h3 h4 h5
  · unfold callOp at hs
    split at hs
    · rename_i f args argTypes ho
      split at hs
      · rename_i g first caps hf
        obtain ⟨⟨fn, hfn, hname, hbody⟩, hc⟩ := hcall _ _ _ _ _ hs
        have hfv := hρ f
        rw [hf] at hfv
        simp only [RelV] at hfv
        obtain ⟨first', caps', hfv, r1, r2⟩ := hfv
        have hargs : RelVs ι h (first ++ args.toList.map (ev e) ++ caps) (first'.toList ++ args.toList.map a.eval ++ caps'.toList) := (r1.append (map_rel hρ _)).append r2
        have hrun : (execOp a.eval o).run P w = .ok (.enter g (first' ++ args.map a.eval ++ caps')) w := by
          unfold execOp resolve
          simp only [ho, Sem.run_bind, hfv, Deferred.ofValue, Sem.run_pure, Result.andThen_ok, invoke, callFunc, run_program, hfn, hname, Bool.false_eq_true, if_false, hbody]
        rw [hrun, Oper.upon_enter]
        have := hc ι base w _ hargs hr
        rw [show (first'.toList ++ args.toList.map a.eval ++ caps'.toList).toArray = first' ++ args.map a.eval ++ caps' by apply Array.ext'; simp] at this
        refine this.mono fun en w' hen => ?_
        obtain ⟨v', ι', rfl, h2, h3, h4, h5⟩ := hen
        exact hK v' w' ι' h2 h3 h4 h5
      · cases hs
    · cases hs
  · cases hs
end

end Go.Hl
end
section
/-! Hl: operations in the order of the text. -/
namespace Go.Hl
open Go.RowKit

section
variable {P : Program} {ι : Map} {base : Nat} {h : H} {w : World}

theorem put_other (a : Act) (d : Option Tmp) (v : Value) (c : Tmp) (hd : d ≠ some c) : (a.put d v).tmps[c]? = a.tmps[c]? := by
  cases d with
  | none => rfl
  | some d =>
    have : d ≠ c := fun h => hd (by rw [h])
    simp [Act.put, Array.getElem?_setIfInBounds_ne this]
theorem put_defers (a : Act) (d : Option Tmp) (v : Value) : (a.put d v).defers = a.defers := by cases d <;> rfl
theorem put_undef (a : Act) (d : Tmp) : ∀ b, (a.put (some d) Go.undef).tmps[d]? ≠ some (.bool b) := by
  intro b
  simp only [Act.put, Array.getElem?_setIfInBounds_self]
  split
  · simp [Go.undef]
  · simp

/-- Under this guard (if any) things go on. -/
def Ctx (ops : Array Oper) (ctx : Option (Nat × Bool)) (a : Act) : Prop := ∀ q w, ctx = some (q, w) → ∃ c, dstOf ops.toList q = some c ∧ a.tmps[c]? = some (.bool w)

theorem Ctx.wanted {ops : Array Oper} {ctx : Option (Nat × Bool)} {a : Act} (hc : Ctx ops ctx a) {o : Oper} (ho : o.guard = ctx) : Region.wanted o (yielded ops a.tmps) = true := by
  unfold Region.wanted
  rw [ho]
  cases ctx with
  | none => rfl
  | some qw =>
    obtain ⟨q, w⟩ := qw
    obtain ⟨c, h1, h2⟩ := hc q w rfl
    unfold dstOf at h1
    rw [Array.getElem?_toList] at h1
    simp [yielded, h1, h2]

/-- A group whose guard says no. -/
theorem skip_group {ops : Array Oper} {Q : Exit → Act → World → Prop} {q : Nat} {wn : Bool} {c : Tmp} {i : Nat} (hq : dstOf ops.toList q = some c) : ∀ (g rest : List Oper) (j : Nat) (a : Act) (w : World),
    (∀ m, m < g.length → ops[j + m]? = g[m]?) → grpOk q wn c i j g = true → (∃ b, a.tmps[c]? = some (.bool b) ∧ b ≠ wn) → (∀ m, i ≤ m → m < j → ∀ b, yielded ops a.tmps m ≠ some b) →
    (∀ a', (∀ d, (∀ o ∈ g, o.dst ≠ some d) → a'.tmps[d]? = a.tmps[d]?) → a'.tmps.size = a.tmps.size → a'.defers = a.defers → (∀ t, a'.tmps.getD t Go.undef = a.tmps.getD t Go.undef ∨ ∃ o ∈ g, o.dst = some t) → wpList P ops Q rest a' w) →
    wpList P ops Q (g ++ rest) a w
  | [], rest, j, a, w, _, _, _, _, hK => hK a (fun _ _ => rfl) rfl rfl (fun _ => .inl rfl)
  | o :: g, rest, j, a, w, hl, hg, hb, hy, hK => by
    simp only [grpOk, Bool.and_eq_true, bne_iff_ne, ne_eq] at hg
    obtain ⟨⟨h1, h2⟩, h3⟩ := hg
    have hnw : Region.wanted o (yielded ops a.tmps) = false := by
      unfold Region.wanted
      split at h2
      · rename_i q' w' hgd
        rw [hgd]
        simp only [Bool.or_eq_true, Bool.and_eq_true, beq_iff_eq, decide_eq_true_eq] at h2
        rcases h2 with ⟨rfl, rfl⟩ | ⟨h4, h5⟩
        · obtain ⟨b, hb1, hb2⟩ := hb
          unfold dstOf at hq
          rw [Array.getElem?_toList] at hq
          simp only [yielded, hq, Option.bind_some, hb1]
          simpa using hb2
        · have := hy q' h4 h5 w'
          simpa using this
      · cases h2
    rw [List.cons_append]
    unfold wpList
    rw [if_neg (by rw [hnw]; simp)]
    have hoj : ops[j]? = some o := by have := hl 0 (by simp); simpa using this
    refine skip_group hq g rest (j + 1) _ w (fun m hm => by have := hl (m + 1) (by simp; omega); rw [show j + 1 + m = j + (m + 1) by omega, this]; simp) h3 ?_ ?_ ?_
    · obtain ⟨b, hb1, hb2⟩ := hb
      exact ⟨b, by rw [put_other _ _ _ _ h1]; exact hb1, hb2⟩
    · intro m hm1 hm2 b hyb
      by_cases hmj : m = j
      · subst hmj
        unfold yielded at hyb
        rw [hoj] at hyb
        cases hd : o.dst with
        | none => simp [hd] at hyb
        | some d =>
          simp only [Option.bind_some, hd] at hyb
          split at hyb
          · rename_i b' hb'
            exact put_undef a d b' hb'
          · cases hyb
      · apply hy m hm1 (by omega) b
        unfold yielded at hyb ⊢
        cases hd : (ops[m]?).bind (·.dst) with
        | none => simp [hd] at hyb
        | some d =>
          simp only [hd, Option.bind_some] at hyb ⊢
          by_cases hdo : o.dst = some d
          · rw [hdo] at hyb
            split at hyb
            · rename_i b' hb'
              exact absurd hb' (put_undef a d b')
            · cases hyb
          · rw [put_other _ _ _ _ hdo] at hyb
            exact hyb
    · intro a' k1 k2 k3 k4
      refine hK a' (fun d hd => ?_) (by rw [k2]; cases o.dst <;> simp [Act.put]) (by rw [k3, put_defers]) (fun t => ?_)
      · rw [k1 d (fun o' ho' => hd o' (by simp [ho'])), put_other _ _ _ _ (hd o (by simp))]
      · rcases k4 t with k4 | ⟨o', ho', k4⟩
        · by_cases hdt : o.dst = some t
          · exact .inr ⟨o, by simp, hdt⟩
          · left
            rw [k4, Array.getD_eq_getD_getElem?, put_other _ _ _ _ hdt, ← Array.getD_eq_getD_getElem?]
        · exact .inr ⟨o', by simp [ho'], k4⟩

theorem forget_length : ∀ (g : List Oper) (e : Env), (forget g e).length = e.length
  | [], _ => rfl
  | o :: g, e => by
    simp only [forget]
    rw [forget_length g]
    cases o.dst <;> simp [Hl.put]
theorem forget_get : ∀ (g : List Oper) (e : Env) (t : Nat), (forget g e).getD t .undef = e.getD t .undef ∨ (forget g e).getD t .undef = .undef
  | [], _, _ => .inl rfl
  | o :: g, e, t => by
    simp only [forget]
    rcases forget_get g (Hl.put e o.dst .undef) t with h1 | h1
    · rw [h1]
      cases hd : o.dst with
      | none => exact .inl rfl
      | some d =>
        simp only [Hl.put]
        by_cases hdt : d = t
        · subst hdt
          right
          by_cases hlt : d < e.length <;> simp [List.getD, hlt]
        · left
          simp [List.getD, List.getElem?_set_ne hdt]
    · exact .inr h1
theorem forget_hit : ∀ (g : List Oper) (e : Env) (t : Nat), (∃ o ∈ g, o.dst = some t) → (forget g e).getD t .undef = .undef
  | [], _, _, h => by obtain ⟨o, ho, _⟩ := h; simp at ho
  | o :: g, e, t, h => by
    simp only [forget]
    by_cases hg : ∃ o ∈ g, o.dst = some t
    · exact forget_hit g _ t hg
    · obtain ⟨o', ho', hd⟩ := h
      rcases List.mem_cons.1 ho' with rfl | ho'
      · rcases forget_get g (Hl.put e o'.dst .undef) t with h1 | h1
        · rw [h1, hd]
          simp only [Hl.put]
          by_cases hlt : t < e.length <;> simp [List.getD, hlt]
        · exact h1
      · exact absurd ⟨o', ho', hd⟩ hg

/-- What was forgotten is related to anything. -/
theorem EnvRel.forget {e : Env} {tm tm' : Array Value} (hr : EnvRel ι h e tm) (g : List Oper) (hsz : tm'.size = tm.size) (hk : ∀ t, tm'.getD t Go.undef = tm.getD t Go.undef ∨ ∃ o ∈ g, o.dst = some t) : EnvRel ι h (Hl.forget g e) tm' := by
  refine ⟨by rw [forget_length, hsz]; exact hr.1, fun t => ?_⟩
  rcases hk t with h1 | h1
  · rcases forget_get g e t with h2 | h2
    · rw [h1, h2]
      exact hr.2 t
    · rw [h2]
      exact RelV.undef _
  · rw [forget_hit g e t h1]
    exact RelV.undef _

theorem ahead_spec (c : Tmp) : ∀ (l : List Oper) (p : Oper) (r : List Oper), l.drop (ahead c l) = p :: r → ∃ x y, p.op = .pick (.tmp c) x y
  | [], p, r, h => by simp at h
  | o :: l, p, r, h => by
    unfold ahead at h
    split at h
    · rename_i d x y ho
      split at h
      · rename_i hd
        simp only [List.drop_zero, List.cons.injEq] at h
        obtain ⟨rfl, _⟩ := h
        exact ⟨x, y, by rw [ho, hd]⟩
      · exact ahead_spec c l p r (by simpa using h)
    · exact ahead_spec c l p r (by simpa using h)

theorem grpOk_dst {q : Nat} {w : Bool} {c : Tmp} {i : Nat} : ∀ {g : List Oper} {j : Nat}, grpOk q w c i j g = true → ∀ o ∈ g, o.dst ≠ some c
  | [], _, _, o, ho => by simp at ho
  | o' :: g, j, hg, o, ho => by
    simp only [grpOk, Bool.and_eq_true, bne_iff_ne, ne_eq] at hg
    rcases List.mem_cons.1 ho with rfl | ho
    · exact hg.1.1
    · exact grpOk_dst hg.2 o ho

/-- What stands behind a run of operations. -/
def Behind (P : Program) (ops : Array Oper) (Q : Exit → Act → World → Prop) (ι : Map) (base : Nat) (h h' : H) (e' : Env) (a : Act) (w : World) (l rest : List Oper) : Prop :=
  ∀ a' w' ι', EnvRel ι' h' e' a'.tmps → Rel ι' base h' w' → Agree ι h ι' h' → Below base w w' → a'.defers = a.defers → (∀ d, (∀ o ∈ l, o.dst ≠ some d) → a'.tmps[d]? = a.tmps[d]?) → a'.tmps.size = a.tmps.size → wpList P ops Q rest a' w'

theorem put_size (a : Act) (d : Option Tmp) (v : Value) : (a.put d v).tmps.size = a.tmps.size := by cases d <;> simp [Act.put]

theorem runOps_wp {call : CallT} (hcall : CallsOk call P) {ops : Array Oper} {Q : Exit → Act → World → Prop} : ∀ (n : Nat) (ctx : Option (Nat × Bool)) (i : Nat) (l rest : List Oper) (ι : Map) (e : Env) (h : H) (e' : Env) (h' : H) (a : Act) (w : World),
    runOps call P ops.toList n ctx l e h = some (e', h') → grpsOk ops.toList n ctx i l = true → (∀ m, m < l.length → ops[i + m]? = l[m]?) → Ctx ops ctx a → (∀ q w c, ctx = some (q, w) → dstOf ops.toList q = some c → ∀ o ∈ l, o.dst ≠ some c) →
    EnvRel ι h e a.tmps → Rel ι base h w → Behind P ops Q ι base h h' e' a w l rest → wpList P ops Q (l ++ rest) a w
  | n, ctx, i, [], rest, ι, e, h, e', h', a, w, hrun, _, _, _, _, he, hr, hK => by
    have : some (e, h) = some (e', h') := by
      cases n <;> simpa [runOps] using hrun
    injection this with this
    injection this with h1 h2
    subst h1 h2
    exact hK a w ι he hr (Agree.refl _ _) (Below.refl _ _) rfl (fun _ _ => rfl) rfl
  | 0, _, _, _ :: _, _, _, _, _, _, _, _, _, hrun, _, _, _, _, _, _, _ => by simp [runOps] at hrun
  | n + 1, ctx, i, o :: l, rest, ι, e, h, e', h', a, w, hrun, hgr, hl, hctx, hdst, he, hr, hK => by
    unfold runOps at hrun
    unfold grpsOk at hgr
    have hoi : ops[i]? = some o := by have := hl 0 (by simp); simpa using this
    by_cases hg : o.guard = ctx
    · rw [if_pos hg] at hrun hgr
      cases hs : Hl.step call P o (ev e) h with
      | none => simp [hs] at hrun
      | some r =>
        obtain ⟨v, h1⟩ := r
        simp only [hs, Option.bind_some] at hrun
        rw [List.cons_append]
        unfold wpList
        rw [if_pos (hctx.wanted hg)]
        left
        refine step_wp hcall hs he hr fun v' w' ι' hv hr' hag hb => ?_
        refine runOps_wp hcall n ctx (i + 1) l rest ι' _ h1 e' h' _ w' hrun hgr (fun m hm => by have := hl (m + 1) (by simp; omega); rw [show i + 1 + m = i + (m + 1) by omega, this]; simp) ?_ (fun q w c hc hd o' ho' => hdst q w c hc hd o' (by simp [ho'])) ((he.step hag).put o.dst hv) hr' ?_
        · intro q wn hc
          obtain ⟨c, h2, h3⟩ := hctx q wn hc
          exact ⟨c, h2, by rw [put_other _ _ _ _ (hdst q wn c hc h2 o (by simp))]; exact h3⟩
        · intro a' w'' ι'' k1 k2 k3 k4 k5 k6 k7
          refine hK a' w'' ι'' k1 k2 (hag.trans k3) (hb.trans k4) (by rw [k5, put_defers]) (fun d hd => ?_) (by rw [k7, put_size])
          rw [k6 d (fun o' ho' => hd o' (by simp [ho'])), put_other _ _ _ _ (hd o (by simp))]
    · rw [if_neg hg] at hrun hgr
      cases hgd : o.guard with
      | none => simp [hgd] at hrun
      | some qw =>
        obtain ⟨q, wn⟩ := qw
        simp only [hgd] at hrun hgr
        cases hq : dstOf ops.toList q with
        | none => simp [hq] at hrun
        | some c =>
          simp only [hq] at hrun hgr
          cases hb : e.getD c .undef with
          | bool b =>
            rw [hb] at hrun
            simp only at hrun
            generalize hk : ahead c (o :: l) = k at *
            cases hdr : (o :: l).drop k with
            | nil => simp [hdr] at hrun
            | cons pk rest' =>
              obtain ⟨x, y, hpk⟩ := ahead_spec c (o :: l) pk rest' (by rw [hk]; exact hdr)
              obtain ⟨pdst, pop, ptype, ppos, pafter, pguard⟩ := pk
              simp only at hpk
              subst hpk
              simp only [hdr, Bool.and_eq_true, decide_eq_true_eq] at hrun hgr
              obtain ⟨⟨⟨g1, g2⟩, g3⟩, g4⟩ := hgr
              generalize hgrp : (o :: l).take k = g at *
              have hsplit : o :: l = g ++ { dst := pdst, op := .pick (.tmp c) x y, type := ptype, pos := ppos, after := pafter, guard := pguard } :: rest' := by
                rw [← hgrp, ← hdr, List.take_append_drop]
              generalize hpk : ({ dst := pdst, op := .pick (.tmp c) x y, type := ptype, pos := ppos, after := pafter, guard := pguard } : Oper) = pk at *
              have hpop : pk.op = .pick (.tmp c) x y := by rw [← hpk]
              have hpdst : pk.dst = pdst := by rw [← hpk]
              have hpg : pk.guard = ctx := by rw [← hpk]; exact g1
              have hklen : g.length = k := by
                rw [← hgrp, List.length_take]
                have := congrArg List.length hdr
                simp only [List.length_drop, List.length_cons] at this ⊢
                omega
              have hllen : (o :: l).length = k + 1 + rest'.length := by rw [hsplit]; simp [hklen]; omega
              have hgl : ∀ m, m < g.length → ops[i + m]? = g[m]? := fun m hm => by
                rw [hl m (by omega), hsplit, List.getElem?_append_left hm]
              have hrl : ∀ m, m < rest'.length → ops[i + k + 1 + m]? = rest'[m]? := fun m hm => by
                rw [show i + k + 1 + m = i + (k + 1 + m) by omega, hl (k + 1 + m) (by omega), hsplit, List.getElem?_append_right (by omega), hklen, show k + 1 + m - k = m + 1 by omega]
                simp
              have hbv : a.tmps[c]? = some (.bool b) := by
                have h1 := he.2 c
                rw [hb] at h1
                simp only [RelV] at h1
                have hlt : c < e.length := by
                  rcases Nat.lt_or_ge c e.length with h2 | h2
                  · exact h2
                  · rw [List.getD_eq_getElem?_getD, List.getElem?_eq_none h2] at hb
                    cases hb
                have hlt' : c < a.tmps.size := he.1 ▸ hlt
                rw [Array.getD_eq_getD_getElem?, Array.getElem?_eq_getElem hlt'] at h1
                rw [Array.getElem?_eq_getElem hlt']
                simpa using h1
              rw [hsplit, List.append_assoc, List.cons_append]
              -- behind the group: the operation that picks, and the rest
              have fin : ∀ (ι1 : Map) (h1 : H) (a1 : Act) (w1 : World) (u : V), ((cond (b == wn) ((runOps call P ops.toList n (some (q, wn)) g e h).map fun r => (ev r.1 (cond wn x y), r.2)) (some (ev (forget g e) (cond wn y x), h))) = some (u, h1)) →
                  EnvRel ι1 h1 (forget g e) a1.tmps → a1.tmps[c]? = some (.bool b) → (∀ d, (∀ o ∈ g, o.dst ≠ some d) → a1.tmps[d]? = a.tmps[d]?) → a1.defers = a.defers → a1.tmps.size = a.tmps.size → Rel ι1 base h1 w1 → Agree ι h ι1 h1 → Below base w w1 →
                  RelV ι1 h1 u (if b = true then a1.eval x else a1.eval y) → wpList P ops Q (pk :: (rest' ++ rest)) a1 w1 := by
                intro ι1 h1 a1 w1 u hu he1 hb1 hk1 hd1 hz1 hr1 hag1 hbl1 hpick
                rw [hu] at hrun
                simp only [Option.bind_some] at hrun
                have hctx1 : Ctx ops ctx a1 := fun q' w' hc' => by
                  obtain ⟨c', k1, k2⟩ := hctx q' w' hc'
                  refine ⟨c', k1, ?_⟩
                  rw [hk1 c' (fun o' ho' => hdst q' w' c' hc' k1 o' (by rw [hsplit]; simp [ho']))]
                  exact k2
                unfold wpList
                rw [if_pos (hctx1.wanted hpg)]
                left
                unfold Oper.wp
                have hex : (execOp a1.eval pk).run P w1 = .ok (.value (if b = true then a1.eval x else a1.eval y)) w1 := by
                  unfold execOp
                  have : a1.eval (.tmp c) = .bool b := by
                    simp only [Act.eval]
                    rw [Array.getD_eq_getD_getElem?, hb1]
                    rfl
                  simp only [hpop, Sem.run_bind, this, asBool, Sem.run_pure, Result.andThen_ok]
                rw [hex, Oper.upon_value, hpdst]
                refine runOps_wp hcall n ctx (i + k + 1) rest' rest ι1 _ h1 e' h' _ w1 hrun g4 hrl ?_ (fun q' w' c' hc' hd' o' ho' => hdst q' w' c' hc' hd' o' (by rw [hsplit]; simp [ho'])) (he1.put pdst hpick) hr1 ?_
                · intro q' w' hc'
                  obtain ⟨c', k1, k2⟩ := hctx1 q' w' hc'
                  exact ⟨c', k1, by rw [put_other _ _ _ _ (by rw [← hpdst]; exact hdst q' w' c' hc' k1 pk (by rw [hsplit]; simp))]; exact k2⟩
                · intro a' w'' ι'' k1 k2 k3 k4 k5 k6 k7
                  refine hK a' w'' ι'' k1 k2 (hag1.trans k3) (hbl1.trans k4) (by rw [k5, put_defers, hd1]) (fun d hd => ?_) (by rw [k7, put_size, hz1])
                  rw [k6 d (fun o' ho' => hd o' (by rw [hsplit]; simp [ho'])), put_other _ _ _ _ (by rw [← hpdst]; exact hd pk (by rw [hsplit]; simp)), hk1 d (fun o' ho' => hd o' (by rw [hsplit]; simp [ho']))]
              by_cases hbw : b = wn
              · subst hbw
                cases hgrun : runOps call P ops.toList n (some (q, b)) g e h with
                | none => simp [hgrun] at hrun
                | some r =>
                  obtain ⟨e1, h1⟩ := r
                  refine runOps_wp hcall n (some (q, b)) i g (pk :: (rest' ++ rest)) ι e h e1 h1 a w hgrun g3 hgl ?_ (fun q' w' c' hc' hd' => ?_) he hr ?_
                  · intro q' w' hc'
                    injection hc' with hc'
                    injection hc' with h2 h3
                    subst h2 h3
                    exact ⟨c, hq, hbv⟩
                  · injection hc' with hc'
                    injection hc' with h2 h3
                    subst h2
                    rw [hq] at hd'
                    injection hd' with hd'
                    subst hd'
                    exact grpOk_dst g2
                  · intro a1 w1 ι1 k1 k2 k3 k4 k5 k6 k7
                    refine fin ι1 h1 a1 w1 (ev e1 (cond b x y)) (by simp [hgrun]) ?_ ?_ k6 k5 k7 k2 k3 k4 ?_
                    · -- what was forgotten; what stayed
                      refine (he.step k3).forget g k7 fun t => ?_
                      by_cases ht : ∃ o ∈ g, o.dst = some t
                      · exact .inr ht
                      · left
                        rw [Array.getD_eq_getD_getElem?, Array.getD_eq_getD_getElem?, k6 t (fun o' ho' hd => ht ⟨o', ho', hd⟩)]
                    · rw [k6 c (grpOk_dst g2)]
                      exact hbv
                    · have := eval_rel k1
                      cases b
                      · simpa using this y
                      · simpa using this x
              · refine skip_group hq g (pk :: (rest' ++ rest)) i a w hgl g2 ⟨b, hbv, hbw⟩ (fun m h1 h2 => by omega) fun a1 k1 k2 k3 k4 => ?_
                have hne : (b == wn) = false := by simpa using hbw
                have he1 := he.forget g k2 k4
                refine fin ι h a1 w (ev (forget g e) (cond wn y x)) (by rw [hne]; rfl) he1 (by rw [k1 c (grpOk_dst g2)]; exact hbv) k1 k3 k2 hr (Agree.refl _ _) (Below.refl _ _) ?_
                have := eval_rel he1
                cases b <;> cases wn
                · exact absurd rfl hbw
                · simpa using this y
                · simpa using this x
                · exact absurd rfl hbw
          | _ => rw [hb] at hrun; simp at hrun
end

end Go.Hl
end
section
/-! Hl: an operation looks at its operands alone. -/
namespace Go.Hl

theorem callPure_congr {P : Program} {c : Call} {ρ σ : Operand → V} (h : ∀ x ∈ c.operands, ρ x = σ x) : callPure P c ρ = callPure P c σ := by
  obtain ⟨callee, args, ts⟩ := c
  have hargs : ∀ x ∈ args.toList, ρ x = σ x := fun x hx => h x (by simp [Call.operands]; exact .inr (by simpa using hx))
  unfold callPure
  split
  · split
    · split
      · rename_i hx
        rw [hargs _ (by simp only at hx; rw [hx]; simp)]
      · rfl
    · split
      · rename_i hx
        simp only at hx
        rw [hargs _ (by rw [hx]; simp), hargs _ (by rw [hx]; simp)]
      · rfl
    · split
      · rename_i hx
        simp only at hx
        rw [hargs _ (by rw [hx]; simp), hargs _ (by rw [hx]; simp)]
      · rfl
    · rfl
  · rfl

theorem parts_congr {ρ σ : Operand → V} {parts : Array (Nat × Operand)} (h : ∀ x ∈ (parts.toList.map (·.2)).toArray, ρ x = σ x) : (parts.toList.map fun p => (p.1, ρ p.2)) = parts.toList.map fun p => (p.1, σ p.2) :=
  List.map_congr_left fun p hp => by rw [h p.2 (by simp; exact ⟨p.1, by simpa using hp⟩)]
theorem partsU_congr {ρ σ : Operand → V} {parts : Array (Nat × Operand)} (h : ∀ x ∈ (parts.toList.map (·.2)).toArray, ρ x = σ x) : parts.toList.any (fun p => (ρ p.2).isU) = parts.toList.any (fun p => (σ p.2).isU) := by
  rw [Bool.eq_iff_iff, List.any_eq_true, List.any_eq_true]
  constructor <;> rintro ⟨p, hp, hu⟩ <;> refine ⟨p, hp, ?_⟩
  · rw [← h p.2 (by simp; exact ⟨p.1, by simpa using hp⟩)]; exact hu
  · rw [h p.2 (by simp; exact ⟨p.1, by simpa using hp⟩)]; exact hu

theorem pureOp_congr {P : Program} {o : Oper} {ρ σ : Operand → V} (h : ∀ x ∈ o.op.operands, ρ x = σ x) : pureOp P o ρ = pureOp P o σ := by
  unfold pureOp
  cases ho : o.op <;> rw [ho] at h <;> simp only [Op.operands] at h <;> try simp only
  case build t ps => rw [partsU_congr h, parts_congr h]
  case slice t x lo hi mx =>
    cases mx with
    | some z =>
      cases hi with
      | none => rfl
      | some y =>
        have hx : ρ x = σ x := h x (by simp)
        have hlo : lo.map ρ = lo.map σ := by cases lo with
          | none => rfl
          | some y => simp only [Option.map_some]; rw [h y (by simp)]
        have hy : ρ y = σ y := h y (by simp)
        have hz : ρ z = σ z := h z (by simp)
        simp only [hx, hlo, hy, hz]
    | none =>
      have hx : ρ x = σ x := h x (by simp)
      have hlo : lo.map ρ = lo.map σ := by cases lo with
        | none => rfl
        | some y => simp only [Option.map_some]; rw [h y (by simp)]
      have hhi : hi.map ρ = hi.map σ := by cases hi with
        | none => rfl
        | some y => simp only [Option.map_some]; rw [h y (by simp)]
      simp only [hx, hlo, hhi]
  case call c => exact callPure_congr h
  case makeFunc f a c =>
    rw [List.map_congr_left (l := a.toList) (fun x hx => h x (by simp; exact .inl (by simpa using hx))), List.map_congr_left (l := c.toList) (fun x hx => h x (by simp; exact .inr (by simpa using hx)))]
  all_goals (try simp only [List.mem_toArray, List.mem_cons, List.not_mem_nil, or_false, forall_eq_or_imp, forall_eq] at h)
  all_goals (first | rfl | (simp only [h]; done) | (obtain ⟨h1, h2⟩ := h; simp only [h1, h2]; done) | (obtain ⟨h1, h2, h3⟩ := h; simp only [h1, h2, h3]; done))

theorem readOp_congr {P : Program} {op : Op} {ρ σ : Operand → V} {m : H} (h : ∀ x ∈ op.operands, ρ x = σ x) : readOp P op ρ m = readOp P op σ m := by
  unfold readOp
  cases op <;> simp only [Op.operands] at h <;> try simp only
  all_goals (try simp only [List.mem_toArray, List.mem_cons, List.not_mem_nil, or_false, forall_eq] at h)
  all_goals (first | rfl | (simp only [h]; done))

theorem actOp_congr {P : Program} {op : Op} {ρ σ : Operand → V} {m : H} (h : ∀ x ∈ op.operands, ρ x = σ x) : actOp P op ρ m = actOp P op σ m := by
  unfold actOp
  cases op <;> simp only [Op.operands] at h <;> try simp only
  case buildSlice t n ps => rw [partsU_congr h, parts_congr h]
  case call c =>
    obtain ⟨callee, args, ts⟩ := c
    cases callee with
    | builtin b =>
      cases b <;> simp only
      have hargs : ∀ x ∈ args.toList, ρ x = σ x := fun x hx => h x (by simp [Call.operands]; exact (by simpa using hx))
      split
      · rename_i hx _
        rw [hargs _ (by rw [hx]; simp), hargs _ (by rw [hx]; simp)]
      · rfl
    | _ => rfl
  all_goals (try simp only [List.mem_toArray, List.mem_cons, List.not_mem_nil, or_false, forall_eq_or_imp, forall_eq] at h)
  all_goals (first | rfl | (simp only [h]; done) | (obtain ⟨h1, h2⟩ := h; simp only [h1, h2]; done))

theorem callOp_congr {call : CallT} {op : Op} {ρ σ : Operand → V} {m : H} (h : ∀ x ∈ op.operands, ρ x = σ x) : callOp call op ρ m = callOp call op σ m := by
  unfold callOp
  cases op <;> simp only [Op.operands] at h <;> try simp only
  case call c =>
    obtain ⟨callee, args, ts⟩ := c
    cases callee with
    | value f =>
      simp only [Call.operands] at h
      have hf : ρ f = σ f := h f (by simp)
      have hargs : args.toList.map ρ = args.toList.map σ := List.map_congr_left fun x hx => h x (by simp; exact .inr (by simpa using hx))
      simp only [hf, hargs]
    | _ => rfl

theorem step_congr {call : CallT} {P : Program} {o : Oper} {ρ σ : Operand → V} {m : H} (h : ∀ x ∈ o.op.operands, ρ x = σ x) : step call P o ρ m = step call P o σ m := by
  unfold step
  split
  · rw [pureOp_congr h]
  · rw [readOp_congr h]
  · exact actOp_congr h
  · exact callOp_congr h
  · rfl

end Go.Hl
end
