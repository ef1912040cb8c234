import Derived.Test.YtbncfiijlnakkaaHlGrow
import Derived.Laws.Concat
import Derived.Laws.Entries
/-! Hl: operations without memory are the program's. -/
namespace Go.Hl
open Go.RowKit

/-- What the table of types says is the program's. -/
theorem ti_ok {P : Program} {t : TypeId} {i : TI} (h : ti P t = some i) : ∃ I u z, P.info? t = some I ∧ P.underlying t = some u ∧ I.zero = some z ∧ tyOf P u = some i.d ∧
    i.sz = I.size ∧ i.agg = aggD u ∧ i.bytes = I.bytes ∧ i.zero = z.cells.toList.map ofCell := by
  unfold ti at h
  split at h
  · rename_i I u hI hu
    split at h
    · rename_i z d hz hd
      injection h with h
      exact ⟨I, u, z, hI, hu, hz, by rw [← h]; exact hd, by rw [← h], by rw [← h], by rw [← h], by rw [← h]⟩
    · cases h
  · cases h

theorem tyOf_slice {P : Program} {u : TypeDesc} {e : TypeId} {n m : Nat} (h : tyOf P u = some (.slice e n m)) : u = .slice e ∧ ∃ i, P.info? e = some i ∧ i.size = n ∧ i.bytes = m := by
  cases u <;> simp only [tyOf] at h <;> try (injection h with h; cases h)
  · split at h
    · rename_i i hi
      injection h with h
      injection h with h1 h2 h3
      subst h1
      exact ⟨rfl, i, hi, h2, h3⟩
    · cases h
  · split at h
    · injection h with h; cases h
    · cases h
  · split at h
    · injection h with h; cases h
    · injection h with h; cases h
theorem tyOf_str {P : Program} {u : TypeDesc} (h : tyOf P u = some .str) : u = .string := by
  cases u <;> simp only [tyOf] at h <;> try (injection h with h; cases h)
  · rfl
  · split at h
    · injection h with h; cases h
    · cases h
  · split at h
    · injection h with h; cases h
    · cases h
  · split at h
    · injection h with h; cases h
    · injection h with h; cases h
theorem tyOf_struct {P : Program} {u : TypeDesc} {l : List (Nat × Nat × Bool)} (h : tyOf P u = some (.struct l)) : ∃ fs, u = .struct fs ∧ fieldsOf P fs.toList = some l := by
  cases u <;> simp only [tyOf] at h <;> try (injection h with h; cases h)
  · split at h
    · injection h with h; cases h
    · cases h
  · split at h
    · injection h with h; cases h
    · cases h
  · split at h
    · rename_i fs l' hl
      injection h with h
      injection h with h
      subst h
      exact ⟨_, rfl, hl⟩
    · injection h with h; cases h
theorem tyOf_arr {P : Program} {u : TypeDesc} {n m : Nat} {g : Bool} (h : tyOf P u = some (.arr n m g)) : ∃ e i v, u = .array n e ∧ P.info? e = some i ∧ P.underlying e = some v ∧ i.size = m ∧ aggD v = g := by
  cases u <;> simp only [tyOf] at h <;> try (injection h with h; cases h)
  · split at h
    · injection h with h; cases h
    · cases h
  · split at h
    · rename_i i v hi hv
      injection h with h
      injection h with h1 h2 h3
      subst h1
      exact ⟨_, i, v, rfl, hi, hv, h2, h3⟩
    · cases h
  · split at h
    · injection h with h; cases h
    · injection h with h; cases h

theorem fieldsOf_get {P : Program} : ∀ {fs : List Field} {l : List (Nat × Nat × Bool)}, fieldsOf P fs = some l → ∀ {f : Nat} {o n : Nat} {g : Bool}, l[f]? = some (o, n, g) →
    ∃ F i u, fs[f]? = some F ∧ P.info? F.type = some i ∧ P.underlying F.type = some u ∧ F.offset = o ∧ i.size = n ∧ n ≠ 0 ∧ aggD u = g
  | [], l, h, f, o, n, g, hl => by
    simp only [fieldsOf] at h
    injection h with h
    subst h
    simp at hl
  | F :: fs, l, h, f, o, n, g, hl => by
    simp only [fieldsOf] at h
    split at h
    · rename_i i u r hi hu hr
      split at h
      · cases h
      · rename_i hz
        injection h with h
        subst h
        cases f with
        | zero =>
          simp only [List.getElem?_cons_zero] at hl
          injection hl with hl
          injection hl with h1 h2
          injection h2 with h2 h3
          exact ⟨F, i, u, by simp, hi, hu, h1, h2, h2 ▸ hz, h3⟩
        | succ f =>
          obtain ⟨F', i', u', a, b⟩ := fieldsOf_get hr (by simpa using hl)
          exact ⟨F', i', u', by simpa using a, b⟩
    · cases h

section
variable {P : Program} {w : World}
theorem r_und {t : TypeId} {u : TypeDesc} (h : P.underlying t = some u) : (underlying t).run P w = .ok u w := by simp [underlying, h]
theorem r_info {t : TypeId} {i : TypeInfo} (h : P.info? t = some i) : (typeInfo t).run P w = .ok i w := by simp [typeInfo, h]
theorem r_size {t : TypeId} {i : TypeInfo} (h : P.info? t = some i) : (sizeOf t).run P w = .ok i.size w := by simp [sizeOf, r_info h]
theorem r_zero {t : TypeId} {i : TypeInfo} {z : Value} (h : P.info? t = some i) (hz : i.zero = some z) : (zeroValue t).run P w = .ok z w := by simp [zeroValue, r_info h, hz]
theorem r_agg {t : TypeId} {u : TypeDesc} (h : P.underlying t = some u) : (isAgg t).run P w = .ok (aggD u) w := by
  unfold isAgg
  simp only [Sem.run_bind, r_und h, Result.andThen_ok]
  cases u <;> rfl
end

section
variable {P : Program} {ι : Map} {h : H} {w : World}

theorem ofCell_rel : ∀ v : Value, RelV ι h (ofCell v) v := by
  intro v
  unfold ofCell
  split
  all_goals first | exact RelV.undef _ | simp [RelV]
theorem ofCells_rel (l : List Value) : RelVs ι h (l.map ofCell) l := by
  induction l with
  | nil => simp [RelVs]
  | cons v l ih =>
    simp only [List.map_cons, RelVs]
    exact ⟨ofCell_rel v, ih⟩
theorem ofVal_rel (v : Value) : RelV ι h (ofVal v) v := by
  unfold ofVal
  split
  · simp only [RelV]
    exact ⟨_, rfl, ofCells_rel _⟩
  · exact ofCell_rel v

theorem RelVs.set {l : List V} {m : List Value} (hr : RelVs ι h l m) {x : V} {y : Value} (hxy : RelV ι h x y) (i : Nat) : RelVs ι h (l.set i x) (m.set i y) := by
  refine RelVs.of_get (by simp [hr.length]) fun j u v hu hv => ?_
  by_cases hij : i = j
  · subst hij
    rw [List.getElem?_set] at hu hv
    simp only [if_true] at hu hv
    split at hu
    · split at hv
      · injection hu with hu
        injection hv with hv
        rw [← hu, ← hv]
        exact hxy
      · cases hv
    · cases hu
  · rw [List.getElem?_set_ne hij] at hu hv
    obtain ⟨v', hv', hr'⟩ := hr.get hu
    rw [hv] at hv'
    injection hv' with hv'
    rw [hv']
    exact hr'

theorem cells_rel {u : V} {v : Value} (hr : RelV ι h u v) (hu : u ≠ .undef) : RelVs ι h u.cells v.cells.toList := by
  cases u <;> simp only [RelV] at hr
  all_goals (first | (subst hr; simp [V.cells, Value.cells, RelVs, RelV]; done) | skip)
  · obtain ⟨a, b, c, rfl⟩ := hr
    simp [V.cells, Value.cells, RelVs, RelV]
    exact ⟨a, b, c⟩
  · obtain ⟨a, cap, rfl, r⟩ := hr
    simp [V.cells, Value.cells, RelVs, RelV]
    exact ⟨a, cap, ⟨rfl, rfl⟩, r⟩
  · obtain ⟨x, y, rfl, r⟩ := hr
    simp [V.cells, Value.cells, RelVs, RelV]
    exact ⟨x, y, ⟨rfl, rfl⟩, r⟩
  · obtain ⟨c, rfl, r⟩ := hr
    exact r
  · rcases hr with rfl | ⟨c, rfl, r⟩
    · exact absurd rfl hu
    · simp [V.cells, Value.cells, RelVs, RelV]
      exact .inr r
  · obtain ⟨y, rfl, r⟩ := hr
    simp [V.cells, Value.cells, RelVs, RelV]
    exact r

/-! ### Parts and fills -/
theorem splice_rel {l us : List V} {m vs : List Value} (hl : RelVs ι h l m) (hv : RelVs ι h us vs) (o : Nat) : RelVs ι h (splice l o us) (m.take o ++ vs ++ m.drop (o + vs.length)) := by
  unfold splice
  rw [hv.length]
  exact ((hl.take o).append hv).append (hl.drop _)

theorem fold_splice (off : Nat) : ∀ (vs : List Value) (k : Nat) (cs : Array Value), off + k + vs.length ≤ cs.size →
    ((vs.zipIdx k).foldl (fun cs (p : Value × Nat) => cs.setIfInBounds (off + p.2) p.1) cs).toList = cs.toList.take (off + k) ++ vs ++ cs.toList.drop (off + k + vs.length)
  | [], k, cs, _ => by simp
  | v :: r, k, cs, hl => by
    simp only [List.length_cons] at hl
    simp only [List.zipIdx_cons, List.foldl_cons]
    rw [fold_splice off r (k + 1) _ (by simp; omega)]
    apply List.ext_getElem?
    intro j
    simp only [List.length_cons, Array.toList_setIfInBounds]
    have e1 : min (off + (k + 1)) cs.size = off + k + 1 := by omega
    have e2 : min (off + k) cs.size = off + k := by omega
    rcases Nat.lt_trichotomy j (off + k) with h1 | h1 | h1
    · rw [List.append_assoc, List.getElem?_append_left (by simp; omega), List.append_assoc, List.getElem?_append_left (by simp; omega), List.getElem?_take, List.getElem?_take, if_pos (by omega), if_pos h1, List.getElem?_set_ne (by omega)]
    · subst h1
      rw [List.append_assoc, List.getElem?_append_left (by simp; omega), List.append_assoc, List.getElem?_append_right (by simp; omega), List.getElem?_take, if_pos (by omega), List.getElem?_set_self (by simp; omega)]
      simp [e2]
    · by_cases h2 : j < off + k + 1 + r.length
      · rw [List.append_assoc, List.getElem?_append_right (by simp; omega), List.getElem?_append_left (by simp; omega), List.append_assoc, List.getElem?_append_right (by simp; omega)]
        simp only [List.length_take, List.length_set, Array.length_toList, e1, e2, List.cons_append]
        rw [show j - (off + k) = j - (off + k + 1) + 1 by omega, List.getElem?_cons_succ, List.getElem?_append_left (by omega)]
      · rw [List.getElem?_append_right (by simp; omega), List.getElem?_append_right (by simp; omega), List.getElem?_drop, List.getElem?_drop, List.getElem?_set_ne (by simp; omega)]
        simp only [List.length_append, List.length_take, List.length_set, Array.length_toList, e1, e2, List.length_cons]
        congr 1
        omega

theorem fill_step {place : Nat → Option (Nat × Nat)} {cells : Array Value} {i : Nat} {v : Value} {r : List (Nat × Value)} {o n : Nat} (hp : place i = some (o, n)) (h1 : v.cells.size = n) (h2 : o + n ≤ cells.size) :
    Instr.fill place cells ((i, v) :: r) = Instr.fill place (cells.toList.take o ++ v.cells.toList ++ cells.toList.drop (o + v.cells.size)).toArray r := by
  simp only [Instr.fill, hp]
  rw [if_neg (by simp; omega)]
  congr 1
  apply Array.toList_inj.1
  have := fold_splice o v.cells.toList 0 cells (by simp; omega)
  simp only [Nat.add_zero, Array.length_toList] at this
  rw [← this]
  rw [← Array.foldl_toList]
  congr 1
  simp

theorem fillF_rel {fs : List (Nat × Nat × Bool)} {place : Nat → Option (Nat × Nat)} (hpl : ∀ i o n g, fs[i]? = some (o, n, g) → place i = some (o, n) ∧ n ≠ 0) :
    ∀ {parts : List (Nat × V)} {parts' : List (Nat × Value)} {cells res : List V} {cells' : Array Value}, pureOp.fillF fs cells parts = some res → RelVs ι h cells cells'.toList →
      parts.map (·.1) = parts'.map (·.1) → RelVs ι h (parts.map (·.2)) (parts'.map (·.2)) → (∀ p ∈ parts, p.2 ≠ .undef) → ∃ res' : Array Value, Instr.fill place cells' parts' = some res' ∧ RelVs ι h res res'.toList
  | [], [], cells, res, cells', hf, hc, _, _, _ => by
    simp only [pureOp.fillF] at hf
    injection hf with hf
    subst hf
    exact ⟨cells', rfl, hc⟩
  | (i, v) :: r, (i', v') :: r', cells, res, cells', hf, hc, hi, hv, hu => by
    simp only [List.map_cons, List.cons.injEq] at hi
    obtain ⟨rfl, hi⟩ := hi
    simp only [List.map_cons, RelVs] at hv
    simp only [pureOp.fillF] at hf
    split at hf
    · rename_i o n g hfs
      split at hf
      · rename_i hcond
        have hcr := cells_rel hv.1 (hu (i, v) (by simp))
        obtain ⟨hp, _⟩ := hpl i o n g hfs
        have hsz : v'.cells.size = n := by rw [← Array.length_toList, ← hcr.length]; exact hcond.1
        have hcs : cells.length = cells'.size := by rw [hc.length, Array.length_toList]
        have := fillF_rel hpl (cells' := (cells'.toList.take o ++ v'.cells.toList ++ cells'.toList.drop (o + v'.cells.size)).toArray) hf (by
          have := splice_rel hc hcr o
          simpa using this) hi hv.2 (fun p hp => hu p (by simp [hp]))
        obtain ⟨res', h1, h2⟩ := this
        exact ⟨res', by rw [fill_step hp hsz (by have := hcond.2; omega)]; exact h1, h2⟩
      · cases hf
    · cases hf
  | [], _ :: _, _, _, _, _, _, hi, _, _ => by simp at hi
  | _ :: _, [], _, _, _, _, _, hi, _, _ => by simp at hi

theorem fillA_rel {n esz : Nat} :
    ∀ {parts : List (Nat × V)} {parts' : List (Nat × Value)} {cells res : List V} {cells' : Array Value}, pureOp.fillA n esz cells parts = some res → RelVs ι h cells cells'.toList →
      parts.map (·.1) = parts'.map (·.1) → RelVs ι h (parts.map (·.2)) (parts'.map (·.2)) → (∀ p ∈ parts, p.2 ≠ .undef) → ∃ res' : Array Value, Instr.fill (fun i => some (i * esz, esz)) cells' parts' = some res' ∧ RelVs ι h res res'.toList
  | [], [], cells, res, cells', hf, hc, _, _, _ => by
    simp only [pureOp.fillA] at hf
    injection hf with hf
    subst hf
    exact ⟨cells', rfl, hc⟩
  | (i, v) :: r, (i', v') :: r', cells, res, cells', hf, hc, hi, hv, hu => by
    simp only [List.map_cons, List.cons.injEq] at hi
    obtain ⟨rfl, hi⟩ := hi
    simp only [List.map_cons, RelVs] at hv
    simp only [pureOp.fillA] at hf
    split at hf
    · rename_i hcond
      have hcr := cells_rel hv.1 (hu (i, v) (by simp))
      have hsz : v'.cells.size = esz := by rw [← Array.length_toList, ← hcr.length]; exact hcond.1
      have hcs : cells.length = cells'.size := by rw [hc.length, Array.length_toList]
      have := fillA_rel (cells' := (cells'.toList.take (i * esz) ++ v'.cells.toList ++ cells'.toList.drop (i * esz + v'.cells.size)).toArray) hf (by
        have := splice_rel hc hcr (i * esz)
        simpa using this) hi hv.2 (fun p hp => hu p (by simp [hp]))
      obtain ⟨res', h1, h2⟩ := this
      exact ⟨res', by rw [fill_step (place := fun i => some (i * esz, esz)) rfl hsz (by have := hcond.2; omega)]; exact h1, h2⟩
    · cases hf
  | [], _ :: _, _, _, _, _, _, hi, _, _ => by simp at hi
  | _ :: _, [], _, _, _, _, _, hi, _, _ => by simp at hi

theorem partOf_rel {l : List V} {c : Array Value} {o n : Nat} {g : Bool} {v : V} {t : TypeId} {i : TypeInfo} {u : TypeDesc} (hp : pureOp.partOf l o n g = some v) (hr : RelVs ι h l c.toList)
    (hi : P.info? t = some i) (hu : P.underlying t = some u) (hn : i.size = n) (hg : aggD u = g) : ∃ v', (part t c o).run P w = .ok v' w ∧ RelV ι h v v' := by
  unfold pureOp.partOf at hp
  unfold part
  simp only [Sem.run_bind, r_agg hu, hg, Result.andThen_ok]
  have hlen := hr.length
  rw [Array.length_toList] at hlen
  split at hp
  · rename_i hle
    cases g
    · simp only [cond_false] at hp
      obtain ⟨v', h1, h2⟩ := hr.get hp
      simp at h1
      simp only [Bool.false_eq_true, if_false, h1]
      exact ⟨v', rfl, h2⟩
    · simp only [cond_true] at hp
      injection hp with hp
      subst hp
      simp only [if_true, Sem.run_bind, r_size hi, Result.andThen_ok, hn, Sem.run_pure]
      refine ⟨_, rfl, ?_⟩
      simp only [RelV]
      refine ⟨_, rfl, ?_⟩
      have := (hr.drop o).take n
      simpa [Array.toList_extract, List.extract_eq_take_drop] using this
  · cases hp
end

end Go.Hl
