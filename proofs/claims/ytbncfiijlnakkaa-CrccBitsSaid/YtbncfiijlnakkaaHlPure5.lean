import Derived.Test.YtbncfiijlnakkaaHlPure4
/-! Hl: operations without memory are the program's (5): all of them. -/
namespace Go.Hl
open Go.RowKit

section
variable {P : Program} {ι : Map} {h : H} {w : World}

theorem map_rel {ρ : Operand → V} {ρ' : Operand → Value} (hρ : ∀ x, RelV ι h (ρ x) (ρ' x)) : ∀ l : List Operand, RelVs ι h (l.map ρ) (l.map ρ')
  | [] => by simp [RelVs]
  | x :: l => by
    simp only [List.map_cons, RelVs]
    exact ⟨hρ x, map_rel hρ l⟩

theorem opt_rel {ρ : Operand → V} {ρ' : Operand → Value} (hρ : ∀ x, RelV ι h (ρ x) (ρ' x)) (o : Option Operand) : (∀ u v, o.map ρ = some u → o.map ρ' = some v → RelV ι h u v) ∧ (o.map ρ).isSome = (o.map ρ').isSome := by
  cases o with
  | none => exact ⟨fun u v h1 => by simp at h1, rfl⟩
  | some x =>
    refine ⟨fun u v h1 h2 => ?_, rfl⟩
    simp only [Option.map_some, Option.some.injEq] at h1 h2
    rw [← h1, ← h2]
    exact hρ x

theorem add_addr (b o n : Nat) : (⟨b, o, none⟩ : Addr).add n = ⟨b, o + n, none⟩ := by unfold Addr.add; split <;> simp_all

theorem parts_rel {ρ : Operand → V} {ρ' : Operand → Value} (hρ : ∀ x, RelV ι h (ρ x) (ρ' x)) (parts : Array (Nat × Operand)) :
    (parts.toList.map fun p => (p.1, ρ p.2)).map (·.1) = ((parts.map fun (p : Nat × Operand) => (p.1, ρ' p.2)).toList).map (·.1) ∧
    RelVs ι h ((parts.toList.map fun p => (p.1, ρ p.2)).map (·.2)) (((parts.map fun (p : Nat × Operand) => (p.1, ρ' p.2)).toList).map (·.2)) := by
  refine ⟨by simp, ?_⟩
  have := map_rel hρ (parts.toList.map (·.2))
  simpa [Function.comp_def] using this

theorem parts_known {ρ : Operand → V} {parts : Array (Nat × Operand)} (hU : ¬ (parts.toList.any (fun p => (ρ p.2).isU) = true)) : ∀ p ∈ parts.toList.map (fun p => (p.1, ρ p.2)), p.2 ≠ .undef := by
  intro p hp' he
  obtain ⟨q, hq, rfl⟩ := List.mem_map.1 hp'
  apply hU
  rw [List.any_eq_true]
  exact ⟨q, hq, by simp only at he; rw [he]; rfl⟩

theorem sim_build {t : TypeId} {parts : Array (Nat × Operand)} {o : Oper} {ρ : Operand → V} {ρ' : Operand → Value} {v : V} (ho : o.op = .build t parts) (hp : pureOp P o ρ = some v) (hρ : ∀ x, RelV ι h (ρ x) (ρ' x)) :
    ∃ v', (execOp ρ' o).run P w = .ok (.value v') w ∧ RelV ι h v v' := by
  unfold pureOp at hp
  simp only [ho] at hp
  split at hp
  · cases hp
  · rename_i hU
    obtain ⟨hm1, hm2⟩ := parts_rel (ι := ι) (h := h) hρ parts
    unfold execOp
    simp only [ho, Sem.run_bind]
    unfold Instr.build
    split at hp
    · rename_i i hti
      obtain ⟨I, u, z, hI, hu, hz, hd, -, -, -, hzero⟩ := ti_ok hti
      have hz0 : RelVs ι h i.zero z.cells.toList := by rw [hzero]; exact ofCells_rel _
      split at hp
      · rename_i fs hfs
        rw [hfs] at hd
        obtain ⟨F, rfl, hF⟩ := tyOf_struct hd
        cases hf : pureOp.fillF fs i.zero (parts.toList.map fun p => (p.1, ρ p.2)) with
        | none => simp [hf] at hp
        | some res =>
          simp only [hf, Option.map_some, Option.some.injEq] at hp
          subst hp
          have hplaces : ∀ l : List Field, (∀ f ∈ l, ∃ i, P.info? f.type = some i) → (l.mapM fun f => (do pure (f.offset, ← sizeOf f.type) : Sem (Nat × Nat))).run P w = .ok (l.map fun f => (f.offset, ((P.info? f.type).map (·.size)).getD 0)) w := by
            intro l
            induction l with
            | nil => intro _; rfl
            | cons f l ih =>
              intro hl
              obtain ⟨j, hj⟩ := hl f (by simp)
              have e := ih (fun g hg => hl g (by simp [hg]))
              simp only [List.mapM_cons, Sem.run_bind, r_size hj, Result.andThen_ok, Sem.run_pure, e, List.map_cons, hj, Option.map_some, Option.getD_some]
          have hall : ∀ (fs : List Field) (l : List (Nat × Nat × Bool)), fieldsOf P fs = some l → ∀ f ∈ fs, ∃ i, P.info? f.type = some i := by
            intro fs
            induction fs with
            | nil => intro _ _ f hf; simp at hf
            | cons g fs ih =>
              intro l hl f hf
              simp only [fieldsOf] at hl
              split at hl
              · rename_i i' u' r hi' hu' hr'
                rcases List.mem_cons.1 hf with rfl | hf
                · exact ⟨i', hi'⟩
                · exact ih r hr' f hf
              · cases hl
          have hpl : ∀ (i : Nat) (o n : Nat) (g : Bool), fs[i]? = some (o, n, g) → (((F.toList.map fun f => (f.offset, ((P.info? f.type).map (·.size)).getD 0)).toArray)[i]? = some (o, n)) ∧ n ≠ 0 := fun i o n g hg => by
            obtain ⟨F', i', u', h1, h2, h3, h4, h5, h6, h7⟩ := fieldsOf_get hF hg
            refine ⟨?_, h6⟩
            simp only [List.getElem?_toArray, List.getElem?_map, h1, Option.map_some, h2, Option.getD_some, h4, h5]
          obtain ⟨res', hr1, hr2⟩ := fillF_rel (ι := ι) (h := h) hpl hf hz0 hm1 hm2 (parts_known hU)
          simp only [Sem.run_bind, r_zero hI hz, r_und hu, Result.andThen_ok]
          rw [show (F.mapM fun f => (do pure (f.offset, ← sizeOf f.type) : Sem (Nat × Nat))) = (do pure (← F.toList.mapM fun f => (do pure (f.offset, ← sizeOf f.type) : Sem (Nat × Nat))).toArray) from by rw [Array.mapM_eq_mapM_toList]; rfl]
          simp only [Sem.run_bind, hplaces F.toList (hall _ _ hF), Result.andThen_ok, Sem.run_pure, hr1]
          exact ⟨_, rfl, by simp only [RelV]; exact ⟨_, rfl, hr2⟩⟩
      · rename_i n esz g hfs
        rw [hfs] at hd
        obtain ⟨e, I', u', rfl, hI', hu', hsz, hg⟩ := tyOf_arr hd
        cases hf : pureOp.fillA n esz i.zero (parts.toList.map fun p => (p.1, ρ p.2)) with
        | none => simp [hf] at hp
        | some res =>
          simp only [hf, Option.map_some, Option.some.injEq] at hp
          subst hp
          obtain ⟨res', hr1, hr2⟩ := fillA_rel (ι := ι) (h := h) hf hz0 hm1 hm2 (parts_known hU)
          simp only [Sem.run_bind, r_zero hI hz, r_und hu, r_size hI', hsz, Result.andThen_ok, hr1, Sem.run_pure]
          exact ⟨_, rfl, by simp only [RelV]; exact ⟨_, rfl, hr2⟩⟩
      · cases hp
    · cases hp
end

end Go.Hl
