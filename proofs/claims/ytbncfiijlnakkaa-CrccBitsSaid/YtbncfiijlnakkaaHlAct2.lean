import Derived.Test.YtbncfiijlnakkaaHlAct
import Derived.Laws.Append
import Derived.Laws.AppendOwn
import Derived.Laws.IdiomStrings
/-! Hl: what it makes and writes is what the program makes and writes (2). -/
namespace Go.Hl
open Go.RowKit

section
variable {P : Program} {ι : Map} {base : Nat} {h : H} {w : World}

theorem act_buildSlice {o : Oper} {t : TypeId} {len : Nat} {parts : Array (Nat × Operand)} {ρ : Operand → V} {ρ' : Operand → Value} {v : V} {h' : H} (ho : o.op = .buildSlice t len parts) (ha : actOp P o.op ρ h = some (v, h')) (hr : Rel ι base h w) (hρ : ∀ x, RelV ι h (ρ x) (ρ' x)) :
    Acts P ι base h h' w v ((execOp ρ' o).run P w) := by
  unfold actOp at ha
  simp only [ho] at ha
  split at ha
  · cases ha
  rename_i hU
  obtain ⟨hm1, hm2⟩ := parts_rel (ι := ι) (h := h) hρ parts
  split at ha
  · rename_i i hti
    obtain ⟨I, u, z, hI, hu, hz, hd, -, -, -, -⟩ := ti_ok hti
    split at ha
    · rename_i e esz eb hfs
      rw [hfs] at hd
      obtain ⟨rfl, E, hE, hEs, hEb⟩ := tyOf_slice hd
      split at ha
      · rename_i j htj
        obtain ⟨J, ju, jz, hJ, hju, hjz, hjd, hjs, -, -, hjzero⟩ := ti_ok htj
        rw [hE] at hJ
        injection hJ with hJ
        subst hJ
        have hjrel : RelVs ι h j.zero jz.cells.toList := by rw [hjzero]; exact ofCells_rel _
        have hjl : j.zero.length = jz.cells.size := by rw [hjrel.length, Array.length_toList]
        split at ha
        · rename_i hc
          obtain ⟨hc1, hc2, hc3⟩ := hc
          split at ha
          · rename_i cells hcells
            split at ha
            · rename_i hok
              injection ha with ha
              injection ha with ha hh
              subst ha hh
              have hlen : cells.length = len * esz := by rw [fillA_length hcells, zeros_length, hc2]
              have hzr : RelVs ι h (zeros j.zero len) (((Array.range (len * esz)).map (jz.cells[· % jz.cells.size]!)).toList) := by
                have := zeros_rel hjrel len
                have hjz' : jz.cells.size = esz := by omega
                rw [show len * esz = len * jz.cells.size by rw [hjz']]
                exact this
              obtain ⟨res, hr1, hr2⟩ := fillA_rel (n := len) hcells hzr hm1 hm2 (parts_known hU)
              have hrl : cells.length = res.size := by rw [hr2.length, Array.length_toList]
              unfold execOp
              simp only [ho, Sem.run_bind, Instr.buildSlice, r_und hu, Result.andThen_ok, r_size hE, hEs, Sem.run_ite]
              rw [if_neg (by omega)]
              obtain ⟨h1, h2⟩ := new_ok (cells := cells) (w' := w.alloc (.cells res e)) (cend := len * esz) hr rfl (fun _ _ => by simp) (by rw [List.take_of_length_le (by simp; omega)]; exact hr2) (by omega) (by omega)
              by_cases h0 : len * esz = 0
              · rw [if_pos h0]
                have hrange : ((Array.range (len * esz)).map ((#[] : Array Value)[· % (#[] : Array Value).size]!)) = ((Array.range (len * esz)).map (jz.cells[· % jz.cells.size]!)) := by rw [h0]; simp
                simp only [Sem.run_bind, Sem.run_pure, Result.andThen_ok]
                rw [hrange, hr1]
                simp only [Sem.run_bind, Sem.run_pure, Result.andThen_ok, newRow, run_newObj]
                exact ⟨_, w.alloc (.cells res e), _, .inl rfl, sl_new hc3 (Nat.le_refl _) hlen, h1, h2, below_alloc hr.base _⟩
              · rw [if_neg h0]
                simp only [Sem.run_bind, r_zero hE hjz, Sem.run_pure, Result.andThen_ok]
                rw [hr1]
                simp only [Sem.run_bind, Sem.run_pure, Result.andThen_ok, newRow, run_newObj]
                exact ⟨_, w.alloc (.cells res e), _, .inl rfl, sl_new hc3 (Nat.le_refl _) hlen, h1, h2, below_alloc hr.base _⟩
            · cases ha
          · cases ha
        · cases ha
      · cases ha
    · cases ha
  · cases ha

theorem act_bytes {o : Oper} {s t : TypeId} {x : Operand} {ρ : Operand → V} {ρ' : Operand → Value} {v : V} {h' : H} (ho : o.op = .convert s t x) (ha : actOp P o.op ρ h = some (v, h')) (hr : Rel ι base h w) (hρ : ∀ x, RelV ι h (ρ x) (ρ' x)) :
    Acts P ι base h h' w v ((execOp ρ' o).run P w) := by
  unfold actOp at ha
  simp only [ho] at ha
  have hx := hρ x
  split at ha
  · rename_i i hs hti
    obtain ⟨I, u, z, hI, hu, hz, hd, -, -, -, -⟩ := ti_ok hti
    split at ha
    · rename_i e l hfs hl
      rw [hfs] at hd
      obtain ⟨rfl, E, hE, hEs, hEb⟩ := tyOf_slice hd
      rw [hl] at hx
      simp only [RelV] at hx
      split at ha
      · rename_i he
        injection ha with ha
        injection ha with ha hh
        subst ha hh
        have hrun := run_bytes_of_string (P := P) w s t e ⟨l.toArray⟩ hs hu he
        unfold execOp
        simp only [ho, Sem.run_bind, hx, hrun, Result.andThen_ok, Sem.run_pure]
        rw [ba_size]
        generalize hg : grownCap w l.length 0 e = cap
        have hcap : l.length ≤ cap := hg ▸ grownCap_ge _ _ _ _
        have hsz : (bytesRow ⟨l.toArray⟩ cap).size = cap := by simp [bytesRow, ba_size]; omega
        have hlen : (byteCells l).length = l.length := by simp [byteCells]
        have hrel : RelVs ι h (byteCells l) ((bytesRow ⟨l.toArray⟩ cap).toList.take (byteCells l).length) := by
          refine RelVs.of_get (by simp [hlen, hsz]; omega) fun j a b hj hb => ?_
          have hlt : j < l.length := by
            have := (List.getElem?_eq_some_iff.1 hj).1
            omega
          rw [List.getElem?_take, if_pos (by omega)] at hb
          simp [byteCells, hlt] at hj
          simp only [bytesRow, Array.toList_append, Array.toList_map] at hb
          rw [List.getElem?_append_left (by simpa using hlt)] at hb
          simp [hlt] at hb
          rw [← hj, ← hb]
          simp [RelV]
        obtain ⟨h1, h2⟩ := new_ok (w := w) (w' := w.drew.alloc (.cells (bytesRow ⟨l.toArray⟩ cap) e ((bytesRow ⟨l.toArray⟩ cap).size, (bytesRow ⟨l.toArray⟩ cap).size + 1))) (cend := cap * 1) hr rfl
          (fun i hi => by simp only; omega) hrel (by rw [hlen]; omega) (by rw [hsz]; omega)
        refine ⟨_, _, _, .inl rfl, ?_, h1, h2, ((Below.refl base w).drew).alloc hr.base _⟩
        exact sl_new (by omega) hcap (by rw [hlen]; omega)
      · cases ha
    · cases ha
  · cases ha

/-! ### append -/
theorem source_rel {esz m : Nat} {u : V} {v : Value} {ys : List V} (hs : sourceOf h esz u = some (m, ys)) (hr : Rel ι base h w) (hu : RelV ι h u v) :
    ∃ vs : List Value, (Builtin.lenOf v).run P w = .ok m w ∧ (Builtin.lenOf v).run P w.drew = .ok m w.drew ∧ (Builtin.firstCells esz m v).run P w = .ok vs.toArray w ∧ (Builtin.firstCells esz m v).run P w.drew = .ok vs.toArray w.drew ∧
      RelVs ι h ys vs ∧ vs.length = m * esz := by
  unfold sourceOf at hs
  split at hs
  · simp only [RelV] at hu
    injection hs with hs
    injection hs with h1 h2
    subst hu h1 h2
    exact ⟨[], rfl, rfl, rfl, rfl, by simp [RelVs], by simp⟩
  · rename_i b off len ver ez lim
    simp only [RelV] at hu
    obtain ⟨a, cap, rfl, k, hk, hg, hez, hlc, hlim, hlo, hle, hadr, hc⟩ := hu
    split at hs
    · rename_i heq
      subst heq
      cases hl : h.read b off ver (len * ez) with
      | none => simp [hl] at hs
      | some l =>
        simp only [hl, Option.map_some, Option.some.injEq, Prod.mk.injEq] at hs
        obtain ⟨rfl, rfl⟩ := hs
        obtain ⟨vs, h1, h2, h3⟩ := read_ok hr hl ⟨k, hk, hg⟩ hlo hle
        have hcell : ∀ j v, vs[j]? = some v → w.cell? (a.add j) = some v := fun j v hv => by
          have hlt := (List.getElem?_eq_some_iff.1 hv).1
          have hl0 : len ≠ 0 := by rintro rfl; rw [Nat.zero_mul] at h2; omega
          rw [hadr (by omega), add_addr, h3 j (by omega)]
          exact hv
        exact ⟨vs, rfl, rfl, run_firstCells_some w ez len a len cap vs h2 hcell, run_firstCells_some w.drew ez len a len cap vs h2 (by simpa using hcell), h1, h2⟩
    · cases hs
  · rename_i s
    simp only [RelV] at hu
    split at hs
    · rename_i h1
      subst h1
      injection hs with hs
      injection hs with h1 h2
      subst hu h1 h2
      refine ⟨s.map fun b => .int .u8 b.toNat, ?_, ?_, ?_, ?_, ?_, by simp⟩
      · simp [Builtin.lenOf, ba_size]
      · simp [Builtin.lenOf, ba_size]
      · simp [Builtin.firstCells, ba_extract]
      · simp [Builtin.firstCells, ba_extract]
      · refine RelVs.of_get (by simp [byteCells]) fun j a b hj hb => ?_
        simp only [byteCells, List.getElem?_map, Option.map_eq_some_iff] at hj hb
        obtain ⟨x, hx, rfl⟩ := hj
        obtain ⟨y, hy, rfl⟩ := hb
        rw [hx] at hy
        injection hy with hy
        subst hy
        simp [RelV]
    · cases hs
  · cases hs
end

end Go.Hl
