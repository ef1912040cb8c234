import Derived.Test.YtbncfiijlnakkaaHlAct3
import Derived.Tactics
/-! Hl: an operation, operations in the order of the text. -/
namespace Go.Hl
open Go.RowKit

section
variable {P : Program} {ι : Map} {base : Nat} {h : H} {w : World}

theorem act_make {o : Oper} {t : TypeId} {l c : Operand} {ρ : Operand → V} {ρ' : Operand → Value} {v : V} {h' : H} (ho : o.op = .makeSlice t l c) (ha : actOp P o.op ρ h = some (v, h')) (hr : Rel ι base h w) (hρ : ∀ x, RelV ι h (ρ x) (ρ' x)) :
    Acts P ι base h h' w v ((execOp ρ' o).run P w) := by
  unfold actOp at ha
  simp only [ho] at ha
  split at ha
  · rename_i i hti
    obtain ⟨I, u, z, hI, hu, hz, hd, -, -, -, -⟩ := ti_ok hti
    split at ha
    · rename_i e esz eb hfs
      rw [hfs] at hd
      obtain ⟨rfl, E, hE, hEs, hEb⟩ := tyOf_slice hd
      split at ha
      · rename_i j htj
        obtain ⟨J, ju, jz, hJ, hju, hjz, hjd, hjs, -, -, hjzero⟩ := ti_ok htj
        rw [hE] at hJ
        injection hJ with hJ
        subst hJ
        have hjrel : RelVs ι h j.zero jz.cells.toList := by rw [hjzero]; exact ofCells_rel _
        have hjl : j.zero.length = jz.cells.size := by rw [hjrel.length, Array.length_toList]
        split at ha
        · rename_i k n k' m hl hc
          split at ha
          · rename_i hcond
            obtain ⟨c1, c2, c3, c4, c5, c6, c7⟩ := hcond
            injection ha with ha
            injection ha with ha hh
            subst ha hh
            have h1 := int_of (hρ l) hl
            have h2 := int_of (hρ c) hc
            have hrun := run_make (P := P) w t e E jz hu hE hjz k k' n m c1 c2 (by rw [hEb]; have : (eb : Int) * m = m * eb := Int.mul_comm _ _; omega) (by omega)
            unfold execOp
            simp only [ho, Sem.run_bind, h1, h2, hrun, Result.andThen_ok, Sem.run_pure]
            have hzr := zeros_rel hjrel n.toNat
            have hjz' : jz.cells.size = esz := by omega
            have hlen : (zeros j.zero n.toNat).length = n.toNat * esz := by rw [zeros_length, c5]
            have hnm : n.toNat * esz ≤ m.toNat * esz := Nat.mul_le_mul_right _ (by omega)
            have hsz : (madeCells jz.cells (m.toNat * E.size)).size = m.toNat * esz := by rw [size_madeCells, hEs]
            obtain ⟨g1, g2⟩ := new_ok (cells := zeros j.zero n.toNat) (w' := w.alloc (.cells (madeCells jz.cells (m.toNat * E.size)) e)) (cend := m.toNat * esz) hr rfl (fun _ _ => by simp)
              (by
                refine RelVs.of_get (by rw [List.length_take, hlen, Array.length_toList, hsz]; omega) fun jj a b ha hb => ?_
                have hjj : jj < n.toNat * esz := by
                  have := (List.getElem?_eq_some_iff.1 ha).1
                  omega
                obtain ⟨b', hb', hrel⟩ := hzr.get ha
                rw [List.getElem?_take, if_pos (by omega)] at hb
                simp [madeCells, hEs, show jj < m.toNat * esz by omega] at hb
                rw [hjz'] at hb'
                simp [show jj < n.toNat * esz by omega] at hb'
                rw [hjz'] at hb
                rw [← hb, hb']
                exact hrel) (by omega) (by omega)
            exact ⟨_, _, _, .inl rfl, sl_new c6 (by omega) hlen, g1, g2, below_alloc hr.base _⟩
          · cases ha
        · cases ha
      · cases ha
    · cases ha
  · cases ha

theorem sim_act {o : Oper} {ρ : Operand → V} {ρ' : Operand → Value} {v : V} {h' : H} (ha : actOp P o.op ρ h = some (v, h')) (hr : Rel ι base h w) (hρ : ∀ x, RelV ι h (ρ x) (ρ' x)) :
    Acts P ι base h h' w v ((execOp ρ' o).run P w) := by
  cases ho : o.op with
  | alloc t => exact act_alloc ho ha hr
  | box t x => exact act_box ho ha hr hρ
  | store t a x => exact act_store ho ha hr hρ
  | buildSlice t len parts => exact act_buildSlice ho ha hr hρ
  | makeSlice t l c => exact act_make ho ha hr hρ
  | convert s t x => exact act_bytes ho ha hr hρ
  | call c =>
    obtain ⟨callee, args, argTypes⟩ := c
    cases callee with
    | builtin b =>
      cases b with
      | append => exact act_append ho rfl ha hr hρ
      | _ => rw [ho] at ha; simp [actOp] at ha
    | _ => rw [ho] at ha; simp [actOp] at ha
  | _ => rw [ho] at ha; simp [actOp] at ha

def EnvRel (ι : Map) (h : H) (e : Env) (tmps : Array Value) : Prop := e.length = tmps.size ∧ ∀ t : Nat, RelV ι h (e.getD t .undef) (tmps.getD t Go.undef)

theorem EnvRel.step {ι' : Map} {h' : H} {e : Env} {tmps : Array Value} (ha : Agree ι h ι' h') (hr : EnvRel ι h e tmps) : EnvRel ι' h' e tmps := ⟨hr.1, fun t => (hr.2 t).step ha⟩

theorem EnvRel.put {e : Env} {a : Act} (hr : EnvRel ι h e a.tmps) (d : Option Tmp) {v : V} {v' : Value} (hv : RelV ι h v v') : EnvRel ι h (Hl.put e d v) (a.put d v').tmps := by
  cases d with
  | none => exact hr
  | some d =>
    refine ⟨by simp [Hl.put, Act.put, hr.1], fun t => ?_⟩
    simp only [Hl.put, Act.put]
    by_cases hd : d = t
    · subst hd
      by_cases hlt : d < e.length
      · have : d < a.tmps.size := hr.1 ▸ hlt
        simp [List.getD, Array.getD, hlt, this]
        exact hv
      · have : ¬ d < a.tmps.size := hr.1 ▸ hlt
        have h1 := hr.2 d
        simpa [List.getD, Array.getD, hlt, this] using h1
    · have h1 := hr.2 t
      simp only [List.getD, List.getElem?_set_ne hd]
      rw [Array.getD_eq_getD_getElem?, Array.getElem?_setIfInBounds_ne hd, ← Array.getD_eq_getD_getElem?]
      exact h1

theorem eval_rel {e : Env} {a : Act} (hr : EnvRel ι h e a.tmps) : ∀ x, RelV ι h (ev e x) (a.eval x) := by
  intro x
  cases x with
  | tmp t => exact hr.2 t
  | const v => exact ofVal_rel v
  | global g => exact RelV.undef _
  | func f =>
    simp only [ev, Act.eval, RelV]
    exact ⟨#[], #[], rfl, by simp [RelVs], by simp [RelVs]⟩

/-- The calls' contracts. -/
def CallsOk (call : CallT) (P : Program) : Prop :=
  ∀ f args h v h', call f args h = some (v, h') → (∃ fn, P.funcs[f]? = some fn ∧ (fn.name == "runtime.NumGoroutine") = false ∧ fn.body.isNone = false) ∧
    ∀ ι base w (args' : List Value), RelVs ι h args args' → Rel ι base h w →
      Calls P f args'.toArray w fun en w' => ∃ v' ι', en = .returned v' ∧ RelV ι' h' v v' ∧ Rel ι' base h' w' ∧ Agree ι h ι' h' ∧ Below base w w'

/-- One operation. -/
theorem step_wp {call : CallT} (hcall : CallsOk call P) {o : Oper} {e : Env} {a : Act} {v : V} {h' : H} {K : Act → World → Prop} {Q : Exit → Act → World → Prop} (hs : Hl.step call P o (ev e) h = some (v, h'))
    (he : EnvRel ι h e a.tmps) (hr : Rel ι base h w)
    (hK : ∀ v' w' ι', RelV ι' h' v v' → Rel ι' base h' w' → Agree ι h ι' h' → Below base w w' → K (a.put o.dst v') w') : o.wp P a w K Q := by
  have hρ := eval_rel he
  unfold Hl.step at hs
  unfold Oper.wp
  split at hs
  · cases hp : pureOp P o (ev e) with
    | none => simp [hp] at hs
    | some u =>
      simp only [hp, Option.map_some, Option.some.injEq, Prod.mk.injEq] at hs
      obtain ⟨rfl, rfl⟩ := hs
      obtain ⟨v', h1, h2⟩ := sim_pure (w := w) hp hρ
      rw [h1]
      exact hK v' w ι h2 hr (Agree.refl _ _) (Below.refl _ _)
  · cases hp : readOp P o.op (ev e) h with
    | none => simp [hp] at hs
    | some u =>
      simp only [hp, Option.map_some, Option.some.injEq, Prod.mk.injEq] at hs
      obtain ⟨rfl, rfl⟩ := hs
      obtain ⟨v', h1, h2⟩ := sim_read hp hr hρ
      rw [h1]
      exact hK v' w ι h2 hr (Agree.refl _ _) (Below.refl _ _)
  · obtain ⟨v', w', ι', h1, h2, h3, h4, h5⟩ := sim_act hs hr hρ
    rcases h1 with h1 | ⟨h1, rfl⟩
    · rw [h1]
      exact hK v' w' ι' h2 h3 h4 h5
    · rw [h1]
      exact hK _ w' ι' h2 h3 h4 h5
  · unfold callOp at hs
    split at hs
    · rename_i f args argTypes ho
      split at hs
      · rename_i g first caps hf
        obtain ⟨⟨fn, hfn, hname, hbody⟩, hc⟩ := hcall _ _ _ _ _ hs
        have hfv := hρ f
        rw [hf] at hfv
        simp only [RelV] at hfv
        obtain ⟨first', caps', hfv, r1, r2⟩ := hfv
        have hargs : RelVs ι h (first ++ args.toList.map (ev e) ++ caps) (first'.toList ++ args.toList.map a.eval ++ caps'.toList) := (r1.append (map_rel hρ _)).append r2
        have hrun : (execOp a.eval o).run P w = .ok (.enter g (first' ++ args.map a.eval ++ caps')) w := by
          unfold execOp resolve
          simp only [ho, Sem.run_bind, hfv, Deferred.ofValue, Sem.run_pure, Result.andThen_ok, invoke, callFunc, run_program, hfn, hname, Bool.false_eq_true, if_false, hbody]
        rw [hrun, Oper.upon_enter]
        have := hc ι base w _ hargs hr
        rw [show (first'.toList ++ args.toList.map a.eval ++ caps'.toList).toArray = first' ++ args.map a.eval ++ caps' by apply Array.ext'; simp] at this
        refine this.mono fun en w' hen => ?_
        obtain ⟨v', ι', rfl, h2, h3, h4, h5⟩ := hen
        exact hK v' w' ι' h2 h3 h4 h5
      · cases hs
    · cases hs
  · cases hs
end

end Go.Hl
