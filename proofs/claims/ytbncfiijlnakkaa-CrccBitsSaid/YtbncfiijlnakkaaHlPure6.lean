import Derived.Test.YtbncfiijlnakkaaHlPure5
/-! Hl: operations without memory are the program's (6): all of them. -/
namespace Go.Hl
open Go.RowKit

section
variable {P : Program} {ι : Map} {h : H} {w : World}

theorem sim_slice {t : TypeId} {x : Operand} {lo hi : Option Operand} {o : Oper} {ρ : Operand → V} {ρ' : Operand → Value} {v : V} (ho : o.op = .slice t x lo hi none) (hp : pureOp P o ρ = some v) (hρ : ∀ x, RelV ι h (ρ x) (ρ' x)) :
    ∃ v', (execOp ρ' o).run P w = .ok (.value v') w ∧ RelV ι h v v' := by
  unfold pureOp at hp
  simp only [ho] at hp
  obtain ⟨hl1, hl2⟩ := opt_rel hρ lo
  obtain ⟨hh1, hh2⟩ := opt_rel hρ hi
  have hx := hρ x
  unfold execOp
  simp only [ho, Sem.run_bind]
  unfold Instr.sliceAt
  split at hp
  · rename_i i hti
    obtain ⟨I, u, z, hI, hu, hz, hd, -, -, -, -⟩ := ti_ok hti
    split at hp
    · rename_i s hfs hs
      rw [hfs] at hd
      have := tyOf_str hd
      subst this
      rw [hs] at hx
      simp only [RelV] at hx
      split at hp
      · rename_i n hn
        split at hp
        · rename_i l hl
          injection hp with hp
          subst hp
          obtain ⟨hb, _, _⟩ := bounds_run (P := P) (w := w) (b := false) (Nat.le_refl _) hn hl hh1 hh2 hl1 hl2
          simp only [Sem.run_bind, r_und hu, Result.andThen_ok, hx, Instr.slice]
          simp only [Option.map_none, Option.isSome_none, Bool.false_eq_true, if_false, Sem.run_bind, r_und hu, Result.andThen_ok, ba_size, Sem.run_pure, hb, ba_extract]
          exact ⟨_, rfl, by simp [RelV]⟩
        · cases hp
      · cases hp
    · rename_i e esz eb b off len ver ez lim hfs hs
      rw [hfs] at hd
      obtain ⟨rfl, I', hI', hsz, _⟩ := tyOf_slice hd
      rw [hs] at hx
      simp only [RelV] at hx
      obtain ⟨a, cap, hx, k, hk, hg, hez, hlc, hlim, hlo, hle, ha, hc⟩ := hx
      split at hp
      · rename_i n hn
        split at hp
        · rename_i l hl
          split at hp
          · cases hp
          · rename_i hcond
            have hez' : ez = esz := by
              rcases Nat.lt_trichotomy ez esz with h1 | h1 | h1
              · exact absurd (.inr (by omega)) hcond
              · exact h1
              · exact absurd (.inr (by omega)) hcond
            have hnl : lim = true → n = len := fun h1 => by
              have : ¬ (n < len) := fun h2 => hcond (.inl ⟨h1, h2⟩)
              have := (bounds_run (P := P) (w := w) (b := true) hlc hn hl hh1 hh2 hl1 hl2).2.2
              omega
            subst hez'
            injection hp with hp
            subst hp
            obtain ⟨hb, hln, hnle⟩ := bounds_run (P := P) (w := w) (b := true) hlc hn hl hh1 hh2 hl1 hl2
            simp only [Sem.run_bind, r_und hu, Result.andThen_ok, hx, Instr.slice, Option.map_none, hb, r_size hI', hsz, Sem.run_pure]
            refine ⟨_, rfl, ?_⟩
            simp only [RelV]
            have hmul : n * ez ≤ len * ez := Nat.mul_le_mul_right _ hnle
            have hml : l * ez + (n - l) * ez = n * ez := by rw [← Nat.add_mul]; congr 1; omega
            have hmc : l * ez + (cap - l) * ez = cap * ez := by rw [← Nat.add_mul]; congr 1; omega
            by_cases hcl : cap = l
            · rw [if_pos hcl]
              refine ⟨a, cap - l, rfl, k, hk, hg, hez, by omega, fun h1 => by have := hlim h1; have := hnl h1; omega, by omega, by omega, fun h1 => by omega, fun h1 => by have := hc h1; omega⟩
            · rw [if_neg hcl]
              refine ⟨a.add (l * ez), cap - l, rfl, k, hk, hg, hez, by omega, fun h1 => by have := hlim h1; have := hnl h1; omega, by omega, by omega, fun h1 => ?_, fun h1 => by have := hc h1; omega⟩
              rw [ha (by omega), add_addr]
              congr 1
              omega
        · cases hp
      · cases hp
    · rename_i e esz eb hfs hs
      rw [hfs] at hd
      obtain ⟨rfl, I', hI', hsz, _⟩ := tyOf_slice hd
      rw [hs] at hx
      simp only [RelV] at hx
      split at hp
      · rename_i n hn
        split at hp
        · rename_i l hl
          injection hp with hp
          subst hp
          obtain ⟨hb, hln, hnle⟩ := bounds_run (P := P) (w := w) (b := true) (Nat.le_refl 0) hn hl hh1 hh2 hl1 hl2
          have hl0 : l = 0 := by omega
          have hn0 : n = 0 := by omega
          subst hl0 hn0
          simp only [Sem.run_bind, r_und hu, Result.andThen_ok, hx, Instr.slice, Option.map_none, hb, r_size hI', hsz, Sem.run_pure]
          exact ⟨_, rfl, by simp [RelV]⟩
        · cases hp
      · cases hp
    · cases hp
  · cases hp

theorem sim_fieldAddr {t : TypeId} {x : Operand} {f : Nat} {o : Oper} {ρ : Operand → V} {ρ' : Operand → Value} {v : V} (ho : o.op = .fieldAddr t x f) (hp : pureOp P o ρ = some v) (hρ : ∀ x, RelV ι h (ρ x) (ρ' x)) :
    ∃ v', (execOp ρ' o).run P w = .ok (.value v') w ∧ RelV ι h v v' := by
  unfold pureOp at hp
  simp only [ho] at hp
  have hx := hρ x
  unfold execOp
  simp only [ho, Sem.run_bind]
  unfold Instr.fieldAt
  split at hp
  · rename_i i hti
    obtain ⟨I, u, z, hI, hu, hz, hd, -, -, -, -⟩ := ti_ok hti
    split at hp
    · rename_i fs b off ver e hfs hs
      rw [hfs] at hd
      obtain ⟨F, rfl, hF⟩ := tyOf_struct hd
      rw [hs] at hx
      simp only [RelV] at hx
      obtain ⟨hok, hlo, hn, hx⟩ := hx
      split at hp
      · rename_i q hq
        injection hp with hp
        subst hp
        obtain ⟨q1, q2, q3⟩ := q
        obtain ⟨F', i', u', h1, h2, h3, h4, h5, h6, h7⟩ := fieldsOf_get hF hq
        simp only [Sem.run_bind, r_und hu, Result.andThen_ok, hx]
        rw [show F[f]? = some F' by simpa using h1]
        simp only [Instr.sureAddr, fieldPlace, Sem.run_bind, Sem.run_pure, Result.andThen_ok, r_size h2, h5, if_neg h6, add_addr, h4]
        refine ⟨_, rfl, ?_⟩
        simp only [RelV]
        exact ⟨hok, by omega, hn, by congr 3; omega⟩
      · cases hp
    · cases hp
  · cases hp

theorem sim_field {t : TypeId} {x : Operand} {f : Nat} {o : Oper} {ρ : Operand → V} {ρ' : Operand → Value} {v : V} (ho : o.op = .field t x f) (hp : pureOp P o ρ = some v) (hρ : ∀ x, RelV ι h (ρ x) (ρ' x)) :
    ∃ v', (execOp ρ' o).run P w = .ok (.value v') w ∧ RelV ι h v v' := by
  unfold pureOp at hp
  simp only [ho] at hp
  have hx := hρ x
  unfold execOp
  simp only [ho, Sem.run_bind]
  unfold Instr.field
  split at hp
  · rename_i i hti
    obtain ⟨I, u, z, hI, hu, hz, hd, -, -, -, -⟩ := ti_ok hti
    split at hp
    · rename_i fs l hfs hs
      rw [hfs] at hd
      obtain ⟨F, rfl, hF⟩ := tyOf_struct hd
      rw [hs] at hx
      simp only [RelV] at hx
      obtain ⟨c, hx, hc⟩ := hx
      split at hp
      · rename_i q hq
        obtain ⟨q1, q2, q3⟩ := q
        obtain ⟨F', i', u', h1, h2, h3, h4, h5, h6, h7⟩ := fieldsOf_get hF hq
        obtain ⟨v', hv', hr⟩ := partOf_rel (w := w) hp hc h2 h3 h5 h7
        simp only [Sem.run_bind, r_und hu, Result.andThen_ok, hx]
        rw [show F[f]? = some F' by simpa using h1]
        simp only [asAgg, Sem.run_bind, Sem.run_pure, Result.andThen_ok, h4, hv']
        exact ⟨_, rfl, hr⟩
      · cases hp
    · cases hp
  · cases hp

theorem sim_indexAddr {t : TypeId} {x y : Operand} {o : Oper} {ρ : Operand → V} {ρ' : Operand → Value} {v : V} (ho : o.op = .indexAddr t x y) (hp : pureOp P o ρ = some v) (hρ : ∀ x, RelV ι h (ρ x) (ρ' x)) :
    ∃ v', (execOp ρ' o).run P w = .ok (.value v') w ∧ RelV ι h v v' := by
  unfold pureOp at hp
  simp only [ho] at hp
  have hx := hρ x
  unfold execOp
  simp only [ho, Sem.run_bind]
  unfold Instr.indexAt
  split at hp
  · rename_i i hti
    obtain ⟨I, u, z, hI, hu, hz, hd, -, -, -, -⟩ := ti_ok hti
    split at hp
    · rename_i e esz eb b off len ver ez lim hfs hs
      rw [hfs] at hd
      obtain ⟨rfl, I', hI', hsz, _⟩ := tyOf_slice hd
      rw [hs] at hx
      simp only [RelV] at hx
      obtain ⟨a, cap, hx, k, hk, hg, hez, hlc, hlim, hlo, hle, ha, hc⟩ := hx
      split at hp
      · rename_i j hj
        split at hp
        · rename_i heq
          subst heq
          injection hp with hp
          subst hp
          obtain ⟨k', n, hy, hc1, rfl, hlt⟩ := idxLt_int hj (hρ y)
          simp only [Sem.run_bind, r_und hu, Result.andThen_ok, hx, hy, asIntOf, Sem.run_pure, if_pos hc1, r_size hI', hsz]
          refine ⟨_, rfl, ?_⟩
          simp only [RelV]
          have hm : n.toNat * ez + ez ≤ len * ez := by rw [← Nat.succ_mul]; exact Nat.mul_le_mul_right _ hlt
          refine ⟨⟨k, hk, hg⟩, by omega, by omega, ?_⟩
          rw [ha (by omega), add_addr]
          congr 3
          omega
        · cases hp
      · cases hp
    · rename_i n esz g b off ver e hfs hs
      rw [hfs] at hd
      obtain ⟨e', I', u', rfl, hI', hu', hsz, hg⟩ := tyOf_arr hd
      rw [hs] at hx
      simp only [RelV] at hx
      obtain ⟨hok, hlo, hn, hx⟩ := hx
      split at hp
      · rename_i j hj
        split at hp
        · rename_i hz'
          injection hp with hp
          subst hp
          obtain ⟨k', m, hy, hc1, rfl, hlt⟩ := idxLt_int hj (hρ y)
          simp only [Sem.run_bind, r_und hu, Result.andThen_ok, hx, hy, asIntOf, Sem.run_pure, Instr.sureAddr, if_pos hc1, r_size hI', hsz]
          refine ⟨_, rfl, ?_⟩
          simp only [RelV]
          have hm : m.toNat * esz + esz ≤ n * esz := by rw [← Nat.succ_mul]; exact Nat.mul_le_mul_right _ hlt
          refine ⟨hok, by omega, by omega, ?_⟩
          rw [add_addr]
          congr 3
          omega
        · cases hp
      · cases hp
    · cases hp
  · cases hp

theorem sim_index {t : TypeId} {x y : Operand} {o : Oper} {ρ : Operand → V} {ρ' : Operand → Value} {v : V} (ho : o.op = .index t x y) (hp : pureOp P o ρ = some v) (hρ : ∀ x, RelV ι h (ρ x) (ρ' x)) :
    ∃ v', (execOp ρ' o).run P w = .ok (.value v') w ∧ RelV ι h v v' := by
  unfold pureOp at hp
  simp only [ho] at hp
  have hx := hρ x
  unfold execOp
  simp only [ho, Sem.run_bind]
  unfold Instr.index
  split at hp
  · rename_i i hti
    obtain ⟨I, u, z, hI, hu, hz, hd, -, -, -, -⟩ := ti_ok hti
    split at hp
    · rename_i s hfs hs
      rw [hfs] at hd
      have := tyOf_str hd
      subst this
      rw [hs] at hx
      simp only [RelV] at hx
      split at hp
      · rename_i j hj
        injection hp with hp
        subst hp
        obtain ⟨k', n, hy, hc1, rfl, hlt⟩ := idxLt_int hj (hρ y)
        simp only [Sem.run_bind, r_und hu, Result.andThen_ok, hx, hy, asIntOf, Sem.run_pure, if_pos hc1.1]
        have e : (⟨s.toArray⟩ : ByteArray)[n.toNat]? = some (s.getD n.toNat 0) := by
          rw [getElem?_pos _ _ (by simpa [ByteArray.size] using hlt)]
          simp only [ByteArray.getElem_eq_getElem_data, List.getElem_toArray]
          simp [List.getD, hlt]
        rw [e]
        exact ⟨_, rfl, by simp [RelV]⟩
      · cases hp
    · rename_i n esz g l hfs hs
      rw [hfs] at hd
      obtain ⟨e', I', u', rfl, hI', hu', hsz, hg⟩ := tyOf_arr hd
      rw [hs] at hx
      simp only [RelV] at hx
      obtain ⟨c, hx, hc⟩ := hx
      split at hp
      · rename_i j hj
        obtain ⟨k', m, hy, hc1, rfl, hlt⟩ := idxLt_int hj (hρ y)
        obtain ⟨v', hv', hr⟩ := partOf_rel (w := w) hp hc hI' hu' hsz hg
        simp only [Sem.run_bind, r_und hu, Result.andThen_ok, hx, hy, asIntOf, Sem.run_pure, if_pos hc1, r_size hI', hsz, hv']
        exact ⟨_, rfl, hr⟩
      · cases hp
    · cases hp
  · cases hp
end

end Go.Hl
