import Derived.Test.YtbncfiijlnakkaaHlSimp3
/-! Hl: slices that are built, strings and bytes, tests. -/
namespace Go.Hl
section
variable {P : Program} {call : CallT} {d : Option Tmp} {t s u e : TypeId} {p : String} {a : Array Edge} {g : Option (Nat × Bool)} {ρ : Operand → V} {h : H} {x y : Operand} {i j : TI} {Q : V × H → Prop}

theorem do_buildSlice' {len n m esz eb : Nat} {b : Bool} {z : List V} {parts : Array (Nat × Operand)} (ht : ti P s = some ⟨n, b, m, z, .slice e esz eb⟩) (hj : ti P e = some j) :
    Ok (step call P ⟨d, .buildSlice s len parts, t, p, a, g⟩ ρ h) Q ↔ (parts.toList.any (fun p => (ρ p.2).isU) = false ∧ (len * esz ≤ 16777216 ∧ j.zero.length = esz ∧ 0 < esz)) ∧
      Ok (pureOp.fillA len esz (zeros j.zero len) (parts.toList.map fun p => (p.1, ρ p.2))) fun cells => cells.all V.cellOk = true ∧ Q (.sl h.size 0 len 0 esz false, h.new cells) := by
  rw [do_act rfl]
  simp only [actOp, ht, hj]
  by_cases hu : parts.toList.any (fun p => (ρ p.2).isU) = true
  · rw [if_pos hu]
    simp [hu]
  · rw [if_neg hu, Ok_if_none]
    rw [Bool.not_eq_true] at hu
    simp only [hu, true_and]
    cases pureOp.fillA len esz (zeros j.zero len) (parts.toList.map fun p => (p.1, ρ p.2)) <;> simp
@[simp] theorem fillA_nil {n esz : Nat} {cells : List V} {Q : List V → Prop} : Ok (pureOp.fillA n esz cells []) Q ↔ Q cells := by simp [pureOp.fillA]
@[simp] theorem fillA_cons {n esz k : Nat} {v : V} {r : List (Nat × V)} {cells : List V} {Q : List V → Prop} :
    Ok (pureOp.fillA n esz cells ((k, v) :: r)) Q ↔ (v.cells.length = esz ∧ k * esz + esz ≤ cells.length) ∧ Ok (pureOp.fillA n esz (splice cells (k * esz) v.cells) r) Q := by
  simp only [pureOp.fillA, Ok_if_none]
@[simp] theorem zeros_zero {z : List V} : zeros z 0 = [] := rfl
@[simp] theorem zeros_succ {z : List V} {n : Nat} : zeros z (n + 1) = z ++ zeros z n := rfl
@[simp] theorem isU_int {k : IntKind} {n : Int} : V.isU (.int k n) = false := rfl
@[simp] theorem isU_str {l : List UInt8} : V.isU (.str l) = false := rfl
@[simp] theorem isU_bool {b : Bool} : V.isU (.bool b) = false := rfl
@[simp] theorem isU_nils : V.isU .nils = false := rfl
@[simp] theorem isU_nilp : V.isU .nilp = false := rfl
@[simp] theorem isU_sl {b o n v z : Nat} {l : Bool} : V.isU (.sl b o n v z l) = false := rfl
@[simp] theorem isU_ptr {b o n v : Nat} : V.isU (.ptr b o n v) = false := rfl
@[simp] theorem isU_agg {l : List V} : V.isU (.agg l) = false := rfl
@[simp] theorem cellOk_int {k : IntKind} {n : Int} : V.cellOk (.int k n) = true := rfl
@[simp] theorem cellOk_str {l : List UInt8} : V.cellOk (.str l) = true := rfl
@[simp] theorem cellOk_bool {b : Bool} : V.cellOk (.bool b) = true := rfl
@[simp] theorem cellOk_nils : V.cellOk .nils = true := rfl
@[simp] theorem cellOk_nilp : V.cellOk .nilp = true := rfl
@[simp] theorem cellOk_sl {b o n v z : Nat} {l : Bool} : V.cellOk (.sl b o n v z l) = true := rfl
@[simp] theorem cellOk_ptr {b o n v : Nat} : V.cellOk (.ptr b o n v) = true := rfl
@[simp] theorem under_int {n : Nat} {k : IntKind} {m : Int} : V.under n (.int k m) = true := rfl
@[simp] theorem under_str {n : Nat} {l : List UInt8} : V.under n (.str l) = true := rfl
@[simp] theorem under_bool {n : Nat} {b : Bool} : V.under n (.bool b) = true := rfl
@[simp] theorem under_nils {n : Nat} : V.under n .nils = true := rfl
@[simp] theorem under_nilp {n : Nat} : V.under n .nilp = true := rfl
@[simp] theorem upto_int {n : Nat} {k : IntKind} {m : Int} : V.upto n (.int k m) = [] := rfl
@[simp] theorem upto_str {n : Nat} {l : List UInt8} : V.upto n (.str l) = [] := rfl
@[simp] theorem upto_bool {n : Nat} {b : Bool} : V.upto n (.bool b) = [] := rfl
@[simp] theorem upto_nils {n : Nat} : V.upto n .nils = [] := rfl
@[simp] theorem upto_nilp {n : Nat} : V.upto n .nilp = [] := rfl
attribute [simp] V.uptos escs

/-- Strings and bytes. -/
def bytesStrV (h : H) : V → Option V
  | .nils => some (.str [])
  | .sl b off len ver ez _ => match h.read b off ver len with
    | some l => if ez = 1 then (bytesOf l).map .str else none
    | none => none
  | _ => none
theorem do_bytesStr (hs : P.underlying s = some (.slice e)) (hu : P.underlying u = some .string) (he : P.underlying e = some (.int .u8)) :
    Ok (step call P ⟨d, .convert s u x, t, p, a, g⟩ ρ h) Q ↔ Ok (bytesStrV h (ρ x)) fun v => Q (v, h) := by
  rw [do_read (by simp [kindOf, hs, hu])]
  simp only [readOp, hs, hu, he]
  cases ρ x <;> rfl
@[simp] theorem bytesStr_nils {Q : V → Prop} : Ok (bytesStrV h .nils) Q ↔ Q (.str []) := by simp [bytesStrV]
@[simp] theorem bytesStr_sl {b o n v z : Nat} {l : Bool} {Q : V → Prop} : Ok (bytesStrV h (.sl b o n v z l)) Q ↔ Ok (h.read b o v n) fun l => z = 1 ∧ Ok (bytesOf l) fun r => Q (.str r) := by
  simp only [bytesStrV]
  cases h.read b o v n <;> simp
@[simp] theorem bytesOf_nil {Q : List UInt8 → Prop} : Ok (bytesOf []) Q ↔ Q [] := by simp [bytesOf]
@[simp] theorem bytesOf_cons {n : Int} {l : List V} {Q : List UInt8 → Prop} : Ok (bytesOf (.int .u8 n :: l)) Q ↔ Ok (bytesOf l) fun r => Q (UInt8.ofNat n.toNat :: r) := by simp [bytesOf]
theorem bytesOf_cells : ∀ l : List UInt8, bytesOf (byteCells l) = some l
  | [] => rfl
  | b :: l => by
    have := bytesOf_cells l
    simp only [byteCells, List.map_cons, bytesOf] at this ⊢
    rw [this]
    simp
def strBytesV (h : H) : V → Option (V × H)
  | .str l => some (.sl h.size 0 l.length 0 1 false, h.new (byteCells l))
  | _ => none
theorem do_strBytes {n m : Nat} {b : Bool} {z : List V} (hs : P.underlying s = some .string) (hu : P.underlying u = some (.slice e)) (ht : ti P u = some ⟨n, b, m, z, .slice e 1 1⟩) (he : P.underlying e = some (.int .u8)) :
    Ok (step call P ⟨d, .convert s u x, t, p, a, g⟩ ρ h) Q ↔ Ok (strBytesV h (ρ x)) Q := by
  rw [do_act (by simp [kindOf, hs, hu])]
  simp only [actOp, hs, ht]
  cases ρ x <;> simp [strBytesV, he]
@[simp] theorem strBytes_str {l : List UInt8} : Ok (strBytesV h (.str l)) Q ↔ Q (.sl h.size 0 l.length 0 1 false, h.new (byteCells l)) := by simp [strBytesV]

@[simp] theorem bin_add_str {x y : List UInt8} : binV P .add t (.str x) (.str y) = if x.length + y.length ≤ 9223372036854775807 then some (.str (x ++ y)) else none := rfl
@[simp] theorem bin_eql_str {x y : List UInt8} : binV P .eql t (.str x) (.str y) = some (.bool (decide (x = y))) := by
  by_cases h : x = y <;> simp [binV, strOp, h]
@[simp] theorem bin_neq_str {x y : List UInt8} : binV P .neq t (.str x) (.str y) = some (.bool (decide (x ≠ y))) := by
  by_cases h : x = y <;> simp [binV, strOp, h]
theorem bin_eql_bool {x y : Bool} (ht : P.underlying t = some .bool) : binV P .eql t (.bool x) (.bool y) = some (.bool (decide (x = y))) := by
  simp [binV, eqOp, ht, BEq.beq]
theorem bin_neq_bool {x y : Bool} (ht : P.underlying t = some .bool) : binV P .neq t (.bool x) (.bool y) = some (.bool (decide (x ≠ y))) := by
  simp [binV, eqOp, ht, BEq.beq]
@[simp] theorem un_not {b : Bool} : unV .not (.bool b) = some (.bool !b) := rfl
end

theorem fdiv_nat (n m : Nat) : (n : Int).fdiv (m : Int) = ((n / m : Nat) : Int) := by
  rw [Int.fdiv_eq_ediv_of_nonneg _ (by omega)]
  simp
theorem ok_shr {k : IntKind} {n : Nat} {y : Nat} {Q : V → Prop} : Ok (shiftOp .shr k (n : Int) (y : Int)) Q ↔ Q (.int k ((n / 2 ^ (min y k.bits) : Nat) : Int)) := by
  have h : ¬ ((y : Int) < 0) := by omega
  simp only [shiftOp]
  rw [if_neg h]
  simp only [Ok_some, Int.toNat_natCast]
  have := fdiv_nat n (2 ^ (min y k.bits))
  push_cast at this
  push_cast
  rw [this]
end Go.Hl
