import Derived.Test.YtbncfiijlnakkaaHlRead
import Derived.Laws.MakeOwn
/-! Hl: what it makes and writes is what the program makes and writes. -/
namespace Go.Hl
open Go.RowKit

/-- What an operation that acts comes to. -/
def Acts (P : Program) (ι : Map) (base : Nat) (h h' : H) (w : World) (v : V) (r : Result Next) : Prop :=
  ∃ v' w' ι', (r = .ok (.value v') w' ∨ (r = .ok .skip w' ∧ v' = Go.undef)) ∧ RelV ι' h' v v' ∧ Rel ι' base h' w' ∧ Agree ι h ι' h' ∧ Below base w w'

section
variable {P : Program} {ι : Map} {base : Nat} {h : H} {w : World}

theorem new_blk (h : H) (cells : List V) : (h.new cells).blks[h.size]? = some { cells, gen := 0, valid := 0, ro := false } := (H.new_get h cells).2 (.inr ⟨rfl, rfl⟩)

theorem ptr_new {w' : World} {cells : List V} {cend : Nat} : RelV (ι.set h.size 0 ⟨w'.heap.size, 0, 0, cells.length, cend⟩) (h.new cells) (.ptr h.size 0 0 cells.length) (.pointer (some ⟨w'.heap.size, 0, none⟩)) := by
  simp only [RelV]
  rw [Map.set_self]
  exact ⟨⟨_, new_blk h cells, Nat.le_refl _⟩, Nat.le_refl _, Nat.le_refl _, rfl⟩

theorem sl_new {b : Nat} {cells : List V} {len cap esz : Nat} (hez : 0 < esz) (hl : len ≤ cap) (hc : cells.length = len * esz) :
    RelV (ι.set h.size 0 ⟨b, 0, 0, cells.length, cap * esz⟩) (h.new cells) (.sl h.size 0 len 0 esz false) (.slice (some ⟨b, 0, none⟩) len cap) := by
  simp only [RelV]
  refine ⟨⟨b, 0, none⟩, cap, rfl, _, new_blk h cells, Nat.le_refl _, hez, hl, fun h1 => (by cases h1), ?_, ?_, fun _ => ?_, fun _ => ?_⟩
  · rw [Map.set_self]; exact Nat.le_refl _
  · rw [Map.set_self]; simp only; omega
  · rw [Map.set_self]
    rfl
  · rw [Map.set_self]; simp only; omega

theorem below_alloc (hb : base ≤ w.heap.size) (o : Obj) : Below base w (w.alloc o) := (Below.refl base w).alloc hb o

theorem zeros_length (z : List V) : ∀ n, (zeros z n).length = n * z.length
  | 0 => by simp [zeros]
  | n + 1 => by simp [zeros, zeros_length z n, Nat.succ_mul]; omega

theorem zeros_rel {z : List V} {zc : Array Value} (hz : RelVs ι h z zc.toList) : ∀ n : Nat, RelVs ι h (zeros z n) (((Array.range (n * zc.size)).map (zc[· % zc.size]!)).toList) := by
  intro n
  have hlen : z.length = zc.size := by rw [hz.length, Array.length_toList]
  have hget : ∀ (n j : Nat), j < n * z.length → (zeros z n)[j]? = z[j % z.length]? := by
    intro n
    induction n with
    | zero => intro j hj; simp at hj
    | succ n ih =>
      intro j hj
      simp only [zeros]
      by_cases h1 : j < z.length
      · rw [List.getElem?_append_left h1, Nat.mod_eq_of_lt h1]
      · rw [List.getElem?_append_right (by omega), ih (j - z.length) (by rw [Nat.succ_mul] at hj; omega)]
        congr 1
        conv => rhs; rw [show j = j - z.length + z.length by omega, Nat.add_mod_right]
  refine RelVs.of_get (by simp [zeros_length, hlen]) fun j u v hu hv => ?_
  have hj : j < n * z.length := by
    have := (List.getElem?_eq_some_iff.1 hu).1
    rwa [zeros_length] at this
  have hpos : 0 < z.length := by
    rcases Nat.eq_zero_or_pos z.length with h0 | h0
    · rw [h0] at hj; simp at hj
    · exact h0
  rw [hget n j hj] at hu
  obtain ⟨v', hv', hr⟩ := hz.get hu
  have hlt : j % zc.size < zc.size := Nat.mod_lt _ (by omega)
  simp [show j < n * zc.size by rw [← hlen]; exact hj] at hv
  rw [hlen] at hv'
  simp only [Array.getElem?_toList] at hv'
  rw [Array.getElem!_eq_getD, Array.getD_eq_getD_getElem?, hv'] at hv
  simp only [Option.getD_some] at hv
  rw [← hv]
  exact hr

theorem fillA_length {n esz : Nat} : ∀ {parts : List (Nat × V)} {cells res : List V}, pureOp.fillA n esz cells parts = some res → res.length = cells.length
  | [], cells, res, hf => by
    simp only [pureOp.fillA, Option.some.injEq] at hf
    rw [hf]
  | (i, v) :: r, cells, res, hf => by
    simp only [pureOp.fillA] at hf
    split at hf
    · rename_i hc
      rw [fillA_length hf, splice_length _ _ _ (by omega)]
    · cases hf

theorem cells_known {u : V} (hc : u.cells.all V.cellOk = true) : u ≠ .undef := by
  rintro rfl
  simp [V.cells, V.cellOk] at hc

theorem act_alloc {o : Oper} {t : TypeId} {ρ : Operand → V} {ρ' : Operand → Value} {v : V} {h' : H} (ho : o.op = .alloc t) (ha : actOp P o.op ρ h = some (v, h')) (hr : Rel ι base h w) :
    Acts P ι base h h' w v ((execOp ρ' o).run P w) := by
  unfold actOp at ha
  simp only [ho] at ha
  split at ha
  · rename_i i hti
    obtain ⟨I, u, z, hI, hu, hz, hd, hsz, hag, -, hzero⟩ := ti_ok hti
    split at ha
    · injection ha with ha
      injection ha with ha hh
      subst ha hh
      have hrel : RelVs ι h i.zero z.cells.toList := by rw [hzero]; exact ofCells_rel _
      have hl : i.zero.length = z.cells.size := by rw [hrel.length, Array.length_toList]
      unfold execOp
      simp only [ho, Sem.run_bind, Instr.alloc, r_zero hI hz, Result.andThen_ok, newVar, newRow, run_newObj, Sem.run_pure]
      obtain ⟨h1, h2⟩ := new_ok (w' := w.alloc (.cells z.cells t)) (cend := i.zero.length) hr rfl (fun _ _ => by simp) (by rw [List.take_of_length_le (by simp; omega)]; exact hrel) (Nat.le_refl _) (by omega)
      exact ⟨_, w.alloc (.cells z.cells t), _, .inl rfl, ptr_new, h1, h2, below_alloc hr.base _⟩
    · cases ha
  · cases ha

theorem act_box {o : Oper} {t : TypeId} {x : Operand} {ρ : Operand → V} {ρ' : Operand → Value} {v : V} {h' : H} (ho : o.op = .box t x) (ha : actOp P o.op ρ h = some (v, h')) (hr : Rel ι base h w) (hρ : ∀ x, RelV ι h (ρ x) (ρ' x)) :
    Acts P ι base h h' w v ((execOp ρ' o).run P w) := by
  unfold actOp at ha
  simp only [ho] at ha
  split at ha
  · rename_i hok
    injection ha with ha
    injection ha with ha hh
    subst ha hh
    have hrel := cells_rel (hρ x) (cells_known hok)
    have hl : (ρ x).cells.length = (ρ' x).cells.size := by rw [hrel.length, Array.length_toList]
    unfold execOp
    simp only [ho, Sem.run_bind, Instr.box, Result.andThen_ok, newVar, newRow, run_newObj, Sem.run_pure]
    obtain ⟨h1, h2⟩ := new_ok (w' := w.alloc (.cells (ρ' x).cells t)) (cend := (ρ x).cells.length) hr rfl (fun _ _ => by simp) (by rw [List.take_of_length_le (by simp; omega)]; exact hrel) (Nat.le_refl _) (by omega)
    exact ⟨_, w.alloc (.cells (ρ' x).cells t), _, .inl rfl, ptr_new, h1, h2, below_alloc hr.base _⟩
  · cases ha

theorem act_store {o : Oper} {t : TypeId} {a x : Operand} {ρ : Operand → V} {ρ' : Operand → Value} {v : V} {h' : H} (ho : o.op = .store t a x) (ha : actOp P o.op ρ h = some (v, h')) (hr : Rel ι base h w) (hρ : ∀ x, RelV ι h (ρ x) (ρ' x)) :
    Acts P ι base h h' w v ((execOp ρ' o).run P w) := by
  unfold actOp at ha
  simp only [ho] at ha
  split at ha
  · rename_i i hti
    obtain ⟨I, u, z, hI, hu, hz, hd, hsz, hag, -, hzero⟩ := ti_ok hti
    split at ha
    · rename_i b off ver e hpa
      split at ha
      · rename_i hc
        cases hw : h.write b off ver (ρ x).cells with
        | none => simp [hw] at ha
        | some h1 =>
          simp only [hw, Option.map_some, Option.some.injEq, Prod.mk.injEq] at ha
          obtain ⟨rfl, rfl⟩ := ha
          have hpv := hρ a
          rw [hpa] at hpv
          simp only [RelV] at hpv
          obtain ⟨hok, hlo, hn, hpv⟩ := hpv
          obtain ⟨k, hk, hro, hver, hlen, hcok, -, -⟩ := H.write_some hw
          have hrel := cells_rel (hρ x) (cells_known hcok)
          obtain ⟨w1, w2, w3, w4⟩ := write_ok P hr hw hlo hrel
          have hl : (ρ x).cells.length = (ρ' x).cells.size := by rw [hrel.length, Array.length_toList]
          unfold execOp
          simp only [ho, Sem.run_bind, Instr.storeAt, hpv, Instr.sureAddr, Sem.run_pure, Result.andThen_ok]
          unfold storeVar
          simp only [Sem.run_bind, r_size hI, Result.andThen_ok]
          rw [Sem.run_ite, if_neg (by omega)]
          simp only [w1, Result.andThen_ok]
          exact ⟨_, _, ι, .inr ⟨rfl, rfl⟩, RelV.undef _, w2, w3, w4⟩
      · cases ha
    · cases ha
  · cases ha
end

end Go.Hl
