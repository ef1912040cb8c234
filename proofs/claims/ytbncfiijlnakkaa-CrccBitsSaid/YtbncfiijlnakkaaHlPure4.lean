import Derived.Test.YtbncfiijlnakkaaHlPure3
/-! Hl: operations without memory are the program's (4). -/
namespace Go.Hl
open Go.RowKit

section
variable {P : Program} {ι : Map} {h : H} {w : World}

theorem eqOp_rel {t : TypeId} {x y : V} {x' y' : Value} {b : Bool} (he : eqOp P t x y = some b) (hx : RelV ι h x x') (hy : RelV ι h y y') : (Op.equal t x' y').run P w = .ok b w := by
  unfold eqOp at he
  unfold Op.equal Op.maxDepth
  obtain ⟨D, hD, hD'⟩ : ∃ D, 10000 = D + 1 ∧ 100 ≤ D + 1 := ⟨9999, rfl, by omega⟩
  rw [hD]
  cases hu : P.underlying t with
  | none => rw [hu] at he; simp at he
  | some u =>
    rw [hu] at he
    split at he
    case h_8 _ _ _ fs l m hu' =>
      split at he
      · rename_i sh hs
        split at he
        · rename_i hc
          simp only [Bool.and_eq_true] at hc
          simp only [RelV] at hx hy
          obtain ⟨c, rfl, hx⟩ := hx
          obtain ⟨c', rfl, hy⟩ := hy
          injection hu' with hu'
          subst hu'
          exact equalIn_ok 100 (D + 1) t sh hD' hs hu hc.1.1 hc.1.2 (.inl ⟨rfl, c, rfl, hx⟩) (.inl ⟨rfl, c', rfl, hy⟩) he
        · cases he
      · cases he
    case h_9 => cases he
    all_goals
      rename_i hu'
      injection hu' with hu'
      subst hu'
      simp only [RelV] at hx hy
      injection he with he
      subst he
      first
        | (subst hx hy; simp [Op.equalIn, run_underlying hu]; done)
        | (subst hx; obtain ⟨_, _, _, rfl⟩ := hy; simp [Op.equalIn, run_underlying hu]; done)
        | (subst hy; obtain ⟨_, _, _, rfl⟩ := hx; simp [Op.equalIn, run_underlying hu]; done)
        | (subst hx; obtain ⟨_, _, rfl, _⟩ := hy; simp [Op.equalIn, run_underlying hu]; done)
        | (subst hy; obtain ⟨_, _, rfl, _⟩ := hx; simp [Op.equalIn, run_underlying hu]; done)

theorem guard_plain {op : BinOp} {t : TypeId} {x y : Operand} {a b : Value} (h1 : ¬ (a = .nilIface ∧ b = .nilIface)) (h2 : ∀ c d, a = .agg c → b = .agg d → P.eqGuardType P.depth t = false) :
    (eqGuard op t x y a b).run P w = .ok () w := by
  unfold eqGuard
  split
  case h_3 => rfl
  all_goals
    rw [if_neg (by decide)]
    split
    · exact absurd ⟨rfl, rfl⟩ h1
    · rename_i c d
      simp [h2 c d rfl rfl]
    · rfl

theorem binV_rel {op : BinOp} {t : TypeId} {x y : Operand} {a b : V} {a' b' : Value} {v : V} (hv : binV P op t a b = some v) (ha : RelV ι h a a') (hb : RelV ι h b b') :
    ∃ v', (do eqGuard op t x y a' b'; binOp op t a' b' : Sem Value).run P w = .ok v' w ∧ RelV ι h v v' := by
  unfold binV at hv
  split at hv
  · rename_i k m k' n
    simp only [RelV] at ha hb
    subst ha hb
    simp only [Sem.run_bind]
    rw [guard_plain (by simp) (by simp)]
    simp only [Result.andThen_ok]
    split at hv
    · exact shiftOp_rel (.inl rfl) hv t
    · exact shiftOp_rel (.inr rfl) hv t
    · split at hv
      · rename_i hk
        subst hk
        exact intOp_rel hv t
      · cases hv
  · rename_i s u
    simp only [RelV] at ha hb
    subst ha hb
    simp only [Sem.run_bind]
    rw [guard_plain (by simp) (by simp)]
    simp only [Result.andThen_ok]
    have : (binOp op t (.string ⟨s.toArray⟩) (.string ⟨u.toArray⟩)) = Op.stringOp op ⟨s.toArray⟩ ⟨u.toArray⟩ := by
      cases op <;> rfl
    rw [this]
    exact strOp_rel hv
  · rename_i hni hns
    have hg : ∀ {r : Bool}, eqOp P t a b = some r → (eqGuard op t x y a' b').run P w = .ok () w := fun {r} he => by
      refine guard_plain ?_ ?_
      · rintro ⟨rfl, rfl⟩
        unfold eqOp at he
        split at he <;> simp_all [RelV]
      · rintro c d rfl rfl
        unfold eqOp at he
        split at he
        case h_8 =>
          split at he
          · split at he
            · rename_i hc
              simp only [Bool.and_eq_true, Bool.not_eq_true'] at hc
              exact hc.2
            · cases he
          · cases he
        all_goals simp_all [RelV]
    have hbin : ∀ {op' : BinOp}, op' = .eql ∨ op' = .neq → ∀ {r : Bool}, eqOp P t a b = some r → binOp op' t a' b' = (if op' = .eql then (do pure (.bool (← Op.equal t a' b')) : Sem Value) else (do pure (.bool (!(← Op.equal t a' b'))) : Sem Value)) := fun {op'} ho {r} he => by
      unfold eqOp at he
      rcases ho with rfl | rfl <;> split at he
      all_goals first
        | (cases he; done)
        | (simp only [RelV] at ha hb
           first
             | (subst ha hb; rfl)
             | (subst ha; obtain ⟨_, _, _, rfl⟩ := hb; rfl)
             | (subst hb; obtain ⟨_, _, _, rfl⟩ := ha; rfl)
             | (subst ha; obtain ⟨_, _, rfl, _⟩ := hb; rfl)
             | (subst hb; obtain ⟨_, _, rfl, _⟩ := ha; rfl)
             | (obtain ⟨_, rfl, _⟩ := ha; obtain ⟨_, rfl, _⟩ := hb; rfl))
    split at hv
    · cases he : eqOp P t a b with
      | none => rw [he] at hv; cases hv
      | some r =>
        rw [he] at hv
        injection hv with hv
        subst hv
        simp only [Sem.run_bind, hg he, Result.andThen_ok]
        rw [hbin (.inl rfl) he, if_pos rfl]
        simp only [Sem.run_bind, eqOp_rel he ha hb, Result.andThen_ok, Sem.run_pure]
        exact ⟨_, rfl, by simp [RelV]⟩
    · cases he : eqOp P t a b with
      | none => rw [he] at hv; cases hv
      | some r =>
        rw [he] at hv
        injection hv with hv
        subst hv
        simp only [Sem.run_bind, hg he, Result.andThen_ok]
        rw [hbin (.inr rfl) he, if_neg (by decide)]
        simp only [Sem.run_bind, eqOp_rel he ha hb, Result.andThen_ok, Sem.run_pure]
        exact ⟨_, rfl, by simp [RelV]⟩
    · cases hv

theorem unV_rel {op : UnOp} {a : V} {a' : Value} {v : V} (hv : unV op a = some v) (ha : RelV ι h a a') : ∃ v', (Op.unary op a').run P w = .ok v' w ∧ RelV ι h v v' := by
  unfold unV at hv
  split at hv
  · simp only [RelV] at ha
    subst ha
    injection hv with hv
    subst hv
    exact ⟨_, rfl, by simp [RelV]⟩
  · simp only [RelV] at ha
    subst ha
    simp only [bitsOp, Option.map_some, Option.some.injEq] at hv
    subst hv
    exact ⟨_, rfl, by simp [RelV]⟩
  · simp only [RelV] at ha
    subst ha
    injection hv with hv
    subst hv
    exact ⟨_, rfl, by simp [RelV]⟩
  · cases hv

/-! ### Bounds -/
theorem idx_run {y : Nat} {u : V} {v : Value} {n : Nat} (hi : idx y u = some n) (hr : RelV ι h u v) (code : BoundsCode) : (Instr.sliceBound v y code).run P w = .ok n w ∧ n ≤ y := by
  unfold idx at hi
  split at hi
  · rename_i k i
    simp only [RelV] at hr
    subst hr
    split at hi
    · rename_i hc
      injection hi with hi
      subst hi
      refine ⟨?_, by omega⟩
      unfold Instr.sliceBound
      simp [asIntOf, hc]
    · cases hi
  · cases hi

theorem idxLt_int {y : Nat} {u : V} {v : Value} {n : Nat} (hi : idxLt y u = some n) (hr : RelV ι h u v) : ∃ (k : IntKind) (i : Int), v = .int k i ∧ (0 ≤ i ∧ i < (y : Int)) ∧ n = i.toNat ∧ n < y := by
  unfold idxLt at hi
  split at hi
  · rename_i k i
    simp only [RelV] at hr
    subst hr
    split at hi
    · rename_i hc
      injection hi with hi
      subst hi
      exact ⟨k, i, rfl, hc, rfl, by omega⟩
    · cases hi
  · cases hi

theorem bounds_run {b : Bool} {len cap : Nat} {lo hi : Option V} {lo' hi' : Option Value} {l n : Nat} (hlen : len ≤ cap) (hh : optIdx len len hi = some n) (hl : optIdx n 0 lo = some l)
    (h1 : ∀ u v, hi = some u → hi' = some v → RelV ι h u v) (h2 : hi.isSome = hi'.isSome) (h3 : ∀ u v, lo = some u → lo' = some v → RelV ι h u v) (h4 : lo.isSome = lo'.isSome) :
    (Instr.sliceBounds b len cap lo' hi' none).run P w = .ok (l, n, cap) w ∧ l ≤ n ∧ n ≤ len := by
  unfold Instr.sliceBounds
  cases hi with
  | none =>
    cases hi' with
    | some _ => cases h2
    | none =>
      simp only [optIdx, Option.some.injEq] at hh
      subst hh
      cases lo with
      | none =>
        cases lo' with
        | some _ => cases h4
        | none =>
          simp only [optIdx, Option.some.injEq] at hl
          subst hl
          exact ⟨by simp, by omega, Nat.le_refl _⟩
      | some u =>
        cases lo' with
        | none => cases h4
        | some v =>
          change idx _ u = some l at hl
          obtain ⟨e, hle⟩ := idx_run (P := P) (w := w) hl (h3 u v rfl rfl) .sliceB
          exact ⟨by simp [e], hle, Nat.le_refl _⟩
  | some u0 =>
    cases hi' with
    | none => cases h2
    | some v0 =>
      change idx len u0 = some n at hh
      have hle0 : n ≤ len := (idx_run (P := P) (w := w) hh (h1 u0 v0 rfl rfl) .sliceB).2
      have hh' : idx cap u0 = some n := by
        unfold idx at hh ⊢
        split at hh
        · split at hh
          · rename_i hc
            rw [if_pos ⟨hc.1, by omega⟩]
            exact hh
          · cases hh
        · cases hh
      have e0 := fun code => (idx_run (P := P) (w := w) hh' (h1 u0 v0 rfl rfl) code).1
      cases lo with
      | none =>
        cases lo' with
        | some _ => cases h4
        | none =>
          simp only [optIdx, Option.some.injEq] at hl
          subst hl
          exact ⟨by simp [e0], by omega, hle0⟩
      | some u =>
        cases lo' with
        | none => cases h4
        | some v =>
          change idx _ u = some l at hl
          obtain ⟨e, hle⟩ := idx_run (P := P) (w := w) hl (h3 u v rfl rfl) .sliceB
          exact ⟨by simp [e0, e], hle, hle0⟩
end

end Go.Hl
