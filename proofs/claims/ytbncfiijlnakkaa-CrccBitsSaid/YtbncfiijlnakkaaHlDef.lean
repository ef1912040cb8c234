import Derived.Calls
/-! Hl: a deterministic evaluator of loaded code, without a tape, capacities or true addresses: its values, its memory, its operations. -/
namespace Go.Hl

/-- A value. A pointer and a slice name a block, a place in it, and which growth of the block they came with; a pointer, up to where it may be read. -/
inductive V where
  | bool (b : Bool)
  | int (k : IntKind) (n : Int)
  | str (s : List UInt8)
  | nilp
  | ptr (b off ver e : Nat)
  | nils
  | sl (b off len ver esz : Nat) (lim : Bool)
  | fn (f : Fn) (first caps : List V)
  | nilf
  | agg (l : List V)
  | tup (l : List V)
  | iface (t : TypeId) (v : V)
  | nili
  deriving Inhabited

/-- What is not known, or does not matter. -/
abbrev V.undef : V := .tup []

mutual
def V.same : V → V → Bool
  | .bool a, .bool b => a == b
  | .int k a, .int k' b => k == k' && a == b
  | .str a, .str b => a == b
  | .nilp, .nilp => true
  | .ptr a b c d, .ptr a' b' c' d' => a == a' && b == b' && c == c' && d == d'
  | .nils, .nils => true
  | .sl a b c d e f, .sl a' b' c' d' e' f' => a == a' && b == b' && c == c' && d == d' && e == e' && f == f'
  | .fn f a b, .fn f' a' b' => decide (f = f') && V.sames a a' && V.sames b b'
  | .nilf, .nilf => true
  | .agg a, .agg b => V.sames a b
  | .tup a, .tup b => V.sames a b
  | .iface t a, .iface t' b => t == t' && V.same a b
  | .nili, .nili => true
  | _, _ => false
def V.sames : List V → List V → Bool
  | [], [] => true
  | a :: l, b :: l' => V.same a b && V.sames l l'
  | _, _ => false
end

mutual
theorem V.same_eq : ∀ {a b : V}, V.same a b = true → a = b
  | .bool _, b, h | .int _ _, b, h | .str _, b, h | .nilp, b, h | .ptr _ _ _ _, b, h | .nils, b, h | .sl _ _ _ _ _ _, b, h | .nilf, b, h | .nili, b, h => by
    cases b <;> simp_all [V.same]
  | .fn f a c, b, h => by
    cases b <;> simp_all [V.same]
    exact ⟨V.sames_eq h.1.2, V.sames_eq h.2⟩
  | .agg a, b, h => by
    cases b <;> simp_all [V.same]
    exact V.sames_eq h
  | .tup a, b, h => by
    cases b <;> simp_all [V.same]
    exact V.sames_eq h
  | .iface t a, b, h => by
    cases b <;> simp_all [V.same]
    exact V.same_eq h.2
theorem V.sames_eq : ∀ {a b : List V}, V.sames a b = true → a = b
  | [], b, h => by cases b <;> simp_all [V.sames]
  | x :: l, b, h => by
    cases b with
    | nil => simp [V.sames] at h
    | cons y m =>
      simp only [V.sames, Bool.and_eq_true] at h
      rw [V.same_eq h.1, V.sames_eq h.2]
end
mutual
@[simp] theorem V.same_refl : ∀ a : V, V.same a a = true
  | .bool _ | .int _ _ | .str _ | .nilp | .ptr _ _ _ _ | .nils | .sl _ _ _ _ _ _ | .nilf | .nili => by simp [V.same]
  | .fn f a c => by simp [V.same, V.sames_refl a, V.sames_refl c]
  | .agg a => by simp [V.same, V.sames_refl a]
  | .tup a => by simp [V.same, V.sames_refl a]
  | .iface t a => by simp [V.same, V.same_refl a]
@[simp] theorem V.sames_refl : ∀ a : List V, V.sames a a = true
  | [] => by simp [V.sames]
  | x :: l => by simp [V.sames, V.same_refl x, V.sames_refl l]
end

mutual
/-- All blocks that it names lie below. -/
def V.under (n : Nat) : V → Bool
  | .ptr b _ _ _ => decide (b < n)
  | .sl b _ _ _ _ _ => decide (b < n)
  | .fn _ a c => V.unders n a && V.unders n c
  | .agg l => V.unders n l
  | .tup l => V.unders n l
  | .iface _ v => V.under n v
  | _ => true
def V.unders (n : Nat) : List V → Bool
  | [] => true
  | v :: l => V.under n v && V.unders n l
end

/-- A block: its cells, how often it grew, from which growth on its cells may be read by elder slices, whether it may be written. -/
structure Blk where
  cells : List V
  gen : Nat
  valid : Nat
  ro : Bool
  deriving Inhabited

/-- Memory: blocks; and which block was given a name of a younger one (since the call began). -/
structure H where
  blks : List Blk
  esc : List (Nat × Nat)
  deriving Inhabited

mutual
/-- The blocks from n on that a value names. -/
def V.upto (n : Nat) : V → List Nat
  | .ptr b _ _ _ => if b < n then [] else [b]
  | .sl b _ _ _ _ _ => if b < n then [] else [b]
  | .fn _ a c => V.uptos n a ++ V.uptos n c
  | .agg l => V.uptos n l
  | .tup l => V.uptos n l
  | .iface _ v => V.upto n v
  | _ => []
def V.uptos (n : Nat) : List V → List Nat
  | [] => []
  | v :: l => V.upto n v ++ V.uptos n l
end

/-- A cell's value: no row of cells, nothing unknown. -/
def V.cellOk : V → Bool
  | .agg _ => false
  | .tup _ => false
  | _ => true

def H.size (h : H) : Nat := h.blks.length
/-- A new block. -/
def H.new (h : H) (cells : List V) : H := { h with blks := h.blks ++ [{ cells, gen := 0, valid := 0, ro := false }] }
/-- Cells that are read: n of them. -/
def H.read (h : H) (b off ver n : Nat) : Option (List V) :=
  match h.blks[b]? with
  | some k => if k.valid ≤ ver ∧ ver ≤ k.gen then some ((k.cells.drop off).take n) else none
  | none => none
/-- Cells that are written. -/
def splice (l : List V) (off : Nat) (vs : List V) : List V := l.take off ++ vs ++ l.drop (off + vs.length)
def escs (b : Nat) (vs : List V) : List (Nat × Nat) := (V.uptos b vs).map fun r => (b, r)
def H.write (h : H) (b off ver : Nat) (vs : List V) : Option H :=
  match h.blks[b]? with
  | some k =>
    if k.ro = false ∧ ver = k.gen ∧ off + vs.length ≤ k.cells.length ∧ vs.all V.cellOk then
      some { blks := h.blks.set b { k with cells := splice k.cells off vs, valid := k.gen }, esc := h.esc ++ escs b vs }
    else none
  | none => none
/-- A block that grows behind its last cell: what it has then is of the next growth. -/
def H.grow (h : H) (b ver : Nat) (vs : List V) : Option H :=
  match h.blks[b]? with
  | some k =>
    if k.ro = false ∧ ver = k.gen ∧ vs.all V.cellOk then
      some { blks := h.blks.set b { k with cells := k.cells ++ vs, gen := k.gen + 1 }, esc := h.esc ++ escs b vs }
    else none
  | none => none

/-- Is it not known? -/
def V.isU : V → Bool
  | .tup [] => true
  | _ => false

def V.cells : V → List V
  | .agg l => l
  | v => [v]

end Go.Hl
