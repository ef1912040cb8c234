import Derived.Test.YtbncfiijlnakkaaHlSimp3
/-! Hl: from what a law's function does to its walk. -/
namespace Go.Hl
open Go.RowKit

theorem walk_of {P : Program} (hmix : P.follows .mixedOrders = true) {f : FuncId} {args : List V} {h' : H} (hc : Does P f args ⟨[], []⟩ = some (.bool true, h')) (w : World) (args' : List Value)
    (hargs : RelVs (fun _ _ => ⟨0, 0, 0, 0, 0⟩) ⟨[], []⟩ args args') : Calls P f args'.toArray w fun e w' => e = .returned (.bool true) ∧ Below w.heap.size w w' := by
  have hrel : Rel (fun _ _ => ⟨0, 0, 0, 0, 0⟩) w.heap.size ⟨[], []⟩ w :=
    ⟨fun b k hk => by simp at hk, fun b b' k k' hk => by simp at hk, Nat.le_refl _, fun b k hk => by simp at hk⟩
  refine ((Does_ok hmix f args _ _ _ hc).2 _ _ w args' hargs hrel).mono ?_
  rintro e w' ⟨v', ι', rfl, hv, _, _, hb⟩
  simp only [RelV] at hv
  exact ⟨by rw [hv], hb⟩
theorem rel_str {ι : Map} {h : H} (a : ByteArray) : RelV ι h (.str a.data.toList) (.string a) := by simp [RelV]
theorem rel_int {ι : Map} {h : H} (k : IntKind) (n : Int) : RelV ι h (.int k n) (.int k n) := by simp [RelV]
theorem rel_bool {ι : Map} {h : H} (b : Bool) : RelV ι h (.bool b) (.bool b) := by simp [RelV]
theorem rel_nil {ι : Map} {h : H} : RelVs ι h [] [] := by simp [RelVs]
theorem rel_cons {ι : Map} {h : H} {u : V} {v : Value} {l : List V} {m : List Value} (a : RelV ι h u v) (b : RelVs ι h l m) : RelVs ι h (u :: l) (v :: m) := by
  simp only [RelVs]
  exact ⟨a, b⟩
end Go.Hl
