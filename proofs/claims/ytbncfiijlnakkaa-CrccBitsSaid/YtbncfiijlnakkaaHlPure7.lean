import Derived.Test.YtbncfiijlnakkaaHlPure6
/-! Hl: operations without memory are the program's (7): all of them. -/
namespace Go.Hl
open Go.RowKit

section
variable {P : Program} {ι : Map} {h : H} {w : World}

theorem sim_pure {o : Oper} {ρ : Operand → V} {ρ' : Operand → Value} {v : V} (hp : pureOp P o ρ = some v) (hρ : ∀ x, RelV ι h (ρ x) (ρ' x)) :
    ∃ v', (execOp ρ' o).run P w = .ok (.value v') w ∧ RelV ι h v v' := by
  cases ho : o.op with
  | build t parts => exact sim_build ho hp hρ
  | fieldAddr t x f => exact sim_fieldAddr ho hp hρ
  | field t x f => exact sim_field ho hp hρ
  | indexAddr t x y => exact sim_indexAddr ho hp hρ
  | index t x y => exact sim_index ho hp hρ
  | slice t x lo hi mx =>
    cases mx with
    | none => exact sim_slice ho hp hρ
    | some _ => unfold pureOp at hp; simp [ho] at hp
  | move x =>
    unfold pureOp at hp
    simp only [ho, Option.some.injEq] at hp
    subst hp
    exact ⟨ρ' x, by simp [execOp, ho], hρ x⟩
  | assign x =>
    unfold pureOp at hp
    simp only [ho, Option.some.injEq] at hp
    subst hp
    exact ⟨ρ' x, by simp [execOp, ho], hρ x⟩
  | pick c a b =>
    unfold pureOp at hp
    simp only [ho] at hp
    split at hp
    · rename_i t hc
      injection hp with hp
      subst hp
      have hcv := hρ c
      rw [hc] at hcv
      simp only [RelV] at hcv
      unfold execOp
      simp only [ho, Sem.run_bind, hcv, asBool, Sem.run_pure, Result.andThen_ok]
      cases t
      · exact ⟨_, rfl, hρ b⟩
      · exact ⟨_, rfl, hρ a⟩
    · cases hp
  | nilCheck x =>
    unfold pureOp at hp
    simp only [ho] at hp
    split at hp
    · rename_i b off ver z hc
      injection hp with hp
      subst hp
      have hcv := hρ x
      rw [hc] at hcv
      have hcv' := hcv
      simp only [RelV] at hcv
      obtain ⟨_, _, _, hcv⟩ := hcv
      unfold execOp
      simp only [ho, hcv]
      exact ⟨_, rfl, hcv ▸ hcv'⟩
    · cases hp
  | binOp op t x y u =>
    unfold pureOp at hp
    simp only [ho] at hp
    obtain ⟨v', h1, h2⟩ := binV_rel (w := w) (x := x) (y := y) hp (hρ x) (hρ y)
    refine ⟨v', ?_, h2⟩
    unfold execOp
    simp only [ho]
    rw [Sem.run_bind, h1]
    rfl
  | unOp op t x =>
    unfold pureOp at hp
    simp only [ho] at hp
    obtain ⟨v', h1, h2⟩ := unV_rel (P := P) (w := w) hp (hρ x)
    refine ⟨v', ?_, h2⟩
    unfold execOp
    simp only [ho, Sem.run_bind, h1, Result.andThen_ok]
    rfl
  | convert s t x =>
    unfold pureOp at hp
    simp only [ho] at hp
    have hx := hρ x
    unfold execOp
    simp only [ho, Sem.run_bind]
    unfold convert
    split at hp
    · rename_i k k' n hs ht hv
      injection hp with hp
      subst hp
      rw [hv] at hx
      simp only [RelV] at hx
      simp only [Sem.run_bind, r_und hs, r_und ht, Result.andThen_ok, hx]
      exact ⟨_, rfl, by simp [RelV]⟩
    · rename_i l hs ht hv
      injection hp with hp
      subst hp
      rw [hv] at hx
      have hx' := hx
      simp only [RelV] at hx
      simp only [Sem.run_bind, r_und hs, r_und ht, Result.andThen_ok, hx]
      exact ⟨_, rfl, by simp [RelV]⟩
    · cases hp
  | extract t i =>
    unfold pureOp at hp
    simp only [ho] at hp
    have hx := hρ t
    split at hp
    · rename_i l hl
      rw [hl] at hx
      simp only [RelV] at hx
      rcases hx with rfl | ⟨c, hx, hc⟩
      · simp at hp
      · obtain ⟨v', h1, h2⟩ := hc.get hp
        unfold execOp
        simp only [ho, Sem.run_bind, Instr.extract, hx]
        rw [show c[i]? = some v' by simpa using h1]
        exact ⟨_, rfl, h2⟩
    · cases hp
  | makeFunc f a c =>
    unfold pureOp at hp
    simp only [ho, Option.some.injEq] at hp
    subst hp
    unfold execOp
    simp only [ho, Sem.run_bind, Instr.makeFunc, Sem.run_pure, Result.andThen_ok]
    refine ⟨_, rfl, ?_⟩
    simp only [RelV]
    exact ⟨_, _, rfl, by simpa using map_rel hρ a.toList, by simpa using map_rel hρ c.toList⟩
  | makeInterface t x =>
    unfold pureOp at hp
    simp only [ho] at hp
    unfold execOp
    simp only [ho, Sem.run_bind, Instr.makeInterface]
    split at hp
    · cases hp
    · rename_i u hne hu
      injection hp with hp
      subst hp
      simp only [Sem.run_bind, r_und hu, Result.andThen_ok]
      refine ⟨_, rfl, ?_⟩
      simp only [RelV]
      exact ⟨_, rfl, hρ x⟩
    · cases hp
  | call c =>
    obtain ⟨callee, args, argTypes⟩ := c
    unfold pureOp at hp
    simp only [ho] at hp
    unfold callPure at hp
    simp only at hp
    split at hp
    · rename_i b
      have hres : (execOp ρ' o).run P w = (builtin b argTypes o.type (args.map fun | .const _ => true | _ => false) (args.map ρ')).run P w := by
        unfold execOp resolve invoke
        simp only [ho]
        rfl
      rw [hres]
      split at hp
      · split at hp
        · rename_i t _ x _ ht hx
          obtain ⟨args⟩ := args
          obtain ⟨argTypes⟩ := argTypes
          simp only at ht hx
          subst ht hx
          have hxv := hρ x
          unfold lenOp at hp
          simp only [builtin, Builtin.len_, Sem.run_bind, List.map_toArray, List.map_cons, List.getElem?_toArray, List.getElem?_cons_zero]
          split at hp
          · rename_i hu
            split at hp
            · rename_i s hs
              injection hp with hp
              subst hp
              rw [hs] at hxv
              simp only [RelV] at hxv
              simp only [hxv, Sem.run_bind, r_und hu, Result.andThen_ok, Sem.run_pure, ba_size]
              exact ⟨_, rfl, by simp [RelV, goInt]⟩
            · cases hp
          · rename_i hu
            split at hp
            · rename_i hs
              injection hp with hp
              subst hp
              rw [hs] at hxv
              simp only [RelV] at hxv
              obtain ⟨a, cap, hxv, _⟩ := hxv
              simp only [hxv, Sem.run_bind, r_und hu, Result.andThen_ok, Sem.run_pure]
              exact ⟨_, rfl, by simp [RelV, goInt]⟩
            · rename_i hs
              injection hp with hp
              subst hp
              rw [hs] at hxv
              simp only [RelV] at hxv
              simp only [hxv, Sem.run_bind, r_und hu, Result.andThen_ok, Sem.run_pure]
              exact ⟨_, rfl, by simp [RelV, goInt]⟩
            · cases hp
          · rename_i hu
            injection hp with hp
            subst hp
            simp only [Sem.run_bind, r_und hu, Result.andThen_ok, Sem.run_pure]
            exact ⟨_, rfl, by simp [RelV, goInt]⟩
          · cases hp
        · cases hp
      · split at hp
        · rename_i x y hxy
          obtain ⟨args⟩ := args
          simp only at hxy
          subst hxy
          have hxv := hρ x
          have hyv := hρ y
          unfold minV at hp
          split at hp
          · rename_i hx hy
            rw [hx] at hxv
            rw [hy] at hyv
            simp only [RelV] at hxv hyv
            split at hp
            · injection hp with hp
              subst hp
              simp [builtin, Builtin.min_, hxv, hyv, Builtin.min2, RelV]
            · cases hp
          · cases hp
        · cases hp
      · split at hp
        · rename_i x y hxy
          obtain ⟨args⟩ := args
          simp only at hxy
          subst hxy
          have hxv := hρ x
          have hyv := hρ y
          unfold maxV at hp
          split at hp
          · rename_i hx hy
            rw [hx] at hxv
            rw [hy] at hyv
            simp only [RelV] at hxv hyv
            split at hp
            · injection hp with hp
              subst hp
              simp [builtin, Builtin.max_, hxv, hyv, Builtin.max2, RelV]
            · cases hp
          · cases hp
        · cases hp
      · cases hp
    · cases hp
  | _ => unfold pureOp at hp; simp [ho] at hp
end

end Go.Hl
