import Derived.Test.YtbncfiijlnakkaaHlPure
import Derived.Laws.Build
import Derived.Lib.Strings
/-! Hl: operations without memory are the program's (2). -/
namespace Go.Hl
open Go.RowKit

theorem bool_of {ι : Map} {h : H} {u : V} {v : Value} {b : Bool} (hr : RelV ι h u v) (hu : u = .bool b) : v = .bool b := by subst hu; simpa [RelV] using hr
theorem int_of {ι : Map} {h : H} {u : V} {v : Value} {k : IntKind} {n : Int} (hr : RelV ι h u v) (hu : u = .int k n) : v = .int k n := by subst hu; simpa [RelV] using hr
theorem str_of {ι : Map} {h : H} {u : V} {v : Value} {s : List UInt8} (hr : RelV ι h u v) (hu : u = .str s) : v = .string ⟨s.toArray⟩ := by subst hu; simpa [RelV] using hr

theorem ba_append (x y : List UInt8) : (⟨x.toArray⟩ : ByteArray) ++ ⟨y.toArray⟩ = ⟨(x ++ y).toArray⟩ := by
  apply ByteArray.ext
  simp
theorem ba_toList (x : List UInt8) : (⟨x.toArray⟩ : ByteArray).toList = x := by
  rw [Lib.toList_data]
theorem ba_size (x : List UInt8) : (⟨x.toArray⟩ : ByteArray).size = x.length := by simp [ByteArray.size]
theorem ba_extract (x : List UInt8) (l h : Nat) : (⟨x.toArray⟩ : ByteArray).extract l h = ⟨((x.take h).drop l).toArray⟩ := by
  apply ByteArray.ext
  simp [List.extract_eq_take_drop, List.drop_take]

section
variable {P : Program} {ι : Map} {h : H} {w : World}

theorem strOp_rel {op : BinOp} {x y : List UInt8} {v : V} (hv : strOp op x y = some v) : ∃ v', (Op.stringOp op ⟨x.toArray⟩ ⟨y.toArray⟩).run P w = .ok v' w ∧ RelV ι h v v' := by
  unfold strOp strLt at hv
  unfold Op.stringOp
  simp only [ba_toList, ba_size, ba_append]
  cases op <;> simp only at hv ⊢
  case add =>
    split at hv
    · rename_i hl
      injection hv with hv
      subst hv
      rw [if_neg (by show ¬ (_ > IntKind.i64.max); have : IntKind.i64.max = 9223372036854775807 := rfl; rw [this]; omega)]
      exact ⟨_, rfl, by simp [RelV]⟩
    · cases hv
  all_goals first | cases hv; done | (injection hv with hv; subst hv; exact ⟨_, rfl, by simp [RelV]⟩)

theorem intOp_rel {op : BinOp} {k : IntKind} {x y : Int} {v : V} (hv : intOp op k x y = some v) (t : TypeId) : ∃ v', (binOp op t (.int k x) (.int k y)).run P w = .ok v' w ∧ RelV ι h v v' := by
  unfold intOp bitsOp at hv
  cases op <;> simp only [Option.map_some] at hv <;> simp [binOp, Op.intArith, Op.intDiv, Op.intBits, Op.intCmp]
  case quo | rem =>
    split at hv
    · cases hv
    · rename_i hy
      injection hv with hv
      subst hv
      simp [hy, RelV]
  all_goals first | (cases hv; done) | (injection hv with hv; subst hv; simp [RelV])

theorem shiftOp_rel {op : BinOp} {k k' : IntKind} {x y : Int} {v : V} (hop : op = .shl ∨ op = .shr) (hv : shiftOp op k x y = some v) (t : TypeId) : ∃ v', (binOp op t (.int k x) (.int k' y)).run P w = .ok v' w ∧ RelV ι h v v' := by
  unfold shiftOp at hv
  rcases hop with rfl | rfl <;> simp only at hv <;> simp only [binOp, Op.shift]
  all_goals
    split at hv
    · cases hv
    · rename_i hy
      injection hv with hv
      subst hv
      rw [if_neg hy]
      exact ⟨_, rfl, by simp [RelV]⟩

/-! ### '==' of structs -/
theorem cellsEq_cons {u : V} {l : List V} {y : V} {m : List V} {r : Bool} (hc : cellsEq (u :: l) (y :: m) = some r) : ∃ a b, cellsEq [u] [y] = some a ∧ cellsEq l m = some b ∧ r = (a && b) := by
  cases u <;> cases y <;> simp only [cellsEq] at hc ⊢ <;> try (cases hc; done)
  all_goals first
    | (split at hc
       · rename_i hk
         cases hb : cellsEq l m with
         | none => simp [hb] at hc
         | some b =>
           simp only [hb, Option.map_some, Option.some.injEq] at hc
           rw [if_pos hk]
           exact ⟨_, b, rfl, rfl, by rw [← hc]; simp⟩
       · cases hc)
    | (cases hb : cellsEq l m with
       | none => simp [hb] at hc
       | some b =>
         simp only [hb, Option.map_some, Option.some.injEq] at hc
         exact ⟨_, b, rfl, rfl, by rw [← hc]; simp⟩)

theorem cellsEq_append : ∀ {l l' m m' : List V} {r : Bool}, l.length = m.length → cellsEq (l ++ l') (m ++ m') = some r → ∃ a b, cellsEq l m = some a ∧ cellsEq l' m' = some b ∧ r = (a && b)
  | [], l', [], m', r, _, hc => ⟨true, r, rfl, by simpa using hc, by simp⟩
  | u :: l, l', y :: m, m', r, hl, hc => by
    rw [List.cons_append, List.cons_append] at hc
    obtain ⟨a, b, h1, h2, rfl⟩ := cellsEq_cons hc
    obtain ⟨a', b', h3, h4, rfl⟩ := cellsEq_append (by simpa using hl) h2
    refine ⟨a && a', b', ?_, h4, by simp [Bool.and_assoc]⟩
    cases u <;> cases y <;> simp only [cellsEq] at h1 ⊢ <;> try (cases h1; done)
    all_goals first
      | (split at h1
         · rename_i hk
           rw [if_pos hk, h3]
           simp only [Option.map_some, Option.some.injEq] at h1 ⊢
           rw [← h1]
           simp
         · cases h1)
      | (rw [h3]
         simp only [Option.map_some, Option.some.injEq] at h1 ⊢
         rw [← h1]
         simp)
  | [], _, _ :: _, _, _, hl, _ => by simp at hl
  | _ :: _, _, [], _, _, hl, _ => by simp at hl

theorem one_cell {l : List V} {m : List V} {r : Bool} (h1 : l.length = 1) (h2 : m.length = 1) (hc : cellsEq l m = some r) : ∃ u y, l = [u] ∧ m = [y] ∧ cellsEq [u] [y] = some r := by
  match l, m, h1, h2 with
  | [u], [y], _, _ => exact ⟨u, y, rfl, rfl, hc⟩
end

end Go.Hl
