import Derived.Test.YtbncfiijlnakkaaHlEsc
import Derived.LoopN
/-! Hl: code and calls. What Hl says of a call, the program's call does. -/
namespace Go.Hl
open Go.RowKit

def exitOf : Ex → Exit
  | .normal => .normal
  | .exit id => .exit id
  | .ret => .ret

section
variable {P : Program} {call : CallT} {base : Nat}

/-- Code. -/
theorem exec_wp (hcall : CallsOk call P) (hmix : P.follows .mixedOrders = true) {k : Nat} : ∀ (c : Code) (Q : Exit → Act → World → Prop) (ι : Map) (e : Env) (h : H) (x : Ex) (e' : Env) (h' : H) (a : Act) (w : World), exec call P k c e h = some (x, e', h') → codeOk P c = true →
    EnvRel ι h e a.tmps → Rel ι base h w →
    (∀ a' w' ι', EnvRel ι' h' e' a'.tmps → Rel ι' base h' w' → Agree ι h ι' h' → Below base w w' → a'.defers = a.defers → Q (exitOf x) a' w') → c.wp P Q a w
  | .region id ops false, Q, ι, e, h, x, e', h', a, w, hr, hok, he, hrel, hK => by
    simp only [exec] at hr
    cases hs : runOps call P ops.toList ops.size none ops.toList e h with
    | none => simp [hs] at hr
    | some r =>
      simp only [hs, Option.map_some, Option.some.injEq, Prod.mk.injEq] at hr
      obtain ⟨rfl, rfl, rfl⟩ := hr
      refine wp_region_list ?_
      have := runOps_wp (P := P) (base := base) (Q := Q) hcall ops.size none 0 ops.toList [] ι e h r.1 r.2 a w hs (by simpa [codeOk] using hok) (fun m _ => by simp) (fun q w hx => by cases hx) (fun q w c hx => by cases hx) he hrel
        (fun a' w' ι' k1 k2 k3 k4 k5 _ _ => hK a' w' ι' k1 k2 k3 k4 k5)
      simpa using this
  | .region id ops true, Q, ι, e, h, x, e', h', a, w, hr, hok, he, hrel, hK => by
    simp only [exec] at hr
    cases hs : runAny call P ops.toList (floats P ops.toList (waits ops.toList [])) e h with
    | none => simp [hs] at hr
    | some r =>
      simp only [hs, Option.map_some, Option.some.injEq, Prod.mk.injEq] at hr
      obtain ⟨rfl, rfl, rfl⟩ := hr
      exact runAny_wp hcall hmix hs (by simpa [codeOk] using hok) he hrel hK
  | .seq c d, Q, ι, e, h, x, e', h', a, w, hr, hok, he, hrel, hK => by
    simp only [codeOk, Bool.and_eq_true] at hok
    simp only [exec] at hr
    refine wp_seq ?_
    split at hr
    · rename_i e1 h1 hc
      refine exec_wp hcall hmix c _ ι e h .normal e1 h1 a w hc hok.1 he hrel fun a' w' ι' k1 k2 k3 k4 k5 => ?_
      refine exec_wp hcall hmix d Q ι' e1 h1 x e' h' a' w' hr hok.2 k1 k2 fun a'' w'' ι'' j1 j2 j3 j4 j5 => ?_
      exact hK a'' w'' ι'' j1 j2 (k3.trans j3) (k4.trans j4) (j5.trans k5)
    · rename_i hne
      refine exec_wp hcall hmix c _ ι e h x e' h' a w hr hok.1 he hrel fun a' w' ι' k1 k2 k3 k4 k5 => ?_
      cases x with
      | normal => exact absurd hr (hne e' h')
      | exit id => exact hK a' w' ι' k1 k2 k3 k4 k5
      | ret => exact hK a' w' ι' k1 k2 k3 k4 k5
  | .cond c t f, Q, ι, e, h, x, e', h', a, w, hr, hok, he, hrel, hK => by
    simp only [codeOk, Bool.and_eq_true] at hok
    simp only [exec] at hr
    split at hr
    · rename_i b hb
      have hv := eval_rel he c
      rw [hb] at hv
      simp only [RelV] at hv
      refine wp_cond hv ?_
      cases b
      · exact exec_wp hcall hmix f Q ι e h x e' h' a w hr hok.2 he hrel hK
      · exact exec_wp hcall hmix t Q ι e h x e' h' a w hr hok.1 he hrel hK
    · cases hr
  | .block id c, Q, ι, e, h, x, e', h', a, w, hr, hok, he, hrel, hK => by
    simp only [codeOk] at hok
    simp only [exec] at hr
    refine wp_block ?_
    split at hr
    · rename_i j e1 h1 hc
      refine exec_wp hcall hmix c _ ι e h (.exit j) e1 h1 a w hc hok he hrel fun a' w' ι' k1 k2 k3 k4 k5 => ?_
      simp only [exitOf, Exit.inBlock]
      split at hr
      · rename_i hj
        rw [if_pos hj]
        injection hr with hr
        injection hr with h1 hr
        injection hr with h2 hr
        subst h1 h2 hr
        exact hK a' w' ι' k1 k2 k3 k4 k5
      · rename_i hj
        rw [if_neg hj]
        injection hr with hr
        injection hr with h1 hr
        injection hr with h2 hr
        subst h1 h2 hr
        exact hK a' w' ι' k1 k2 k3 k4 k5
    · rename_i hne
      refine exec_wp hcall hmix c _ ι e h x e' h' a w hr hok he hrel fun a' w' ι' k1 k2 k3 k4 k5 => ?_
      cases x with
      | normal => exact hK a' w' ι' k1 k2 k3 k4 k5
      | exit id => exact absurd hr (hne id e' h')
      | ret => exact hK a' w' ι' k1 k2 k3 k4 k5
  | .loop c, Q, ι, e, h, x, e', h', a, w, hr, hok, he, hrel, hK => by
    simp only [codeOk] at hok
    simp only [exec] at hr
    have key : ∀ n ι e h a w, iter (exec call P k c) n e h = some (x, e', h') → EnvRel ι h e a.tmps → Rel ι base h w →
        (∀ a' w' ι', EnvRel ι' h' e' a'.tmps → Rel ι' base h' w' → Agree ι h ι' h' → Below base w w' → a'.defers = a.defers → Q (exitOf x) a' w') → Code.rounds P c Q n a w := by
      intro n
      induction n with
      | zero => intro ι e h a w hi; simp [iter] at hi
      | succ n ih =>
        intro ι e h a w hi he hrel hK
        rw [rounds_succ]
        simp only [iter] at hi
        split at hi
        · rename_i e1 h1 hc
          refine exec_wp hcall hmix c _ ι e h .normal e1 h1 a w hc hok he hrel fun a' w' ι' k1 k2 k3 k4 k5 => ?_
          exact ih ι' e1 h1 a' w' hi k1 k2 fun a'' w'' ι'' j1 j2 j3 j4 j5 => hK a'' w'' ι'' j1 j2 (k3.trans j3) (k4.trans j4) (j5.trans k5)
        · rename_i hne
          refine exec_wp hcall hmix c _ ι e h x e' h' a w hi hok he hrel fun a' w' ι' k1 k2 k3 k4 k5 => ?_
          cases x with
          | normal => exact absurd hi (hne e' h')
          | exit id => exact hK a' w' ι' k1 k2 k3 k4 k5
          | ret => exact hK a' w' ι' k1 k2 k3 k4 k5
    exact wp_loop_rounds k (key k ι e h a w hr he hrel hK)
  | .skip, Q, ι, e, h, x, e', h', a, w, hr, hok, he, hrel, hK => by
    simp only [exec, Option.some.injEq, Prod.mk.injEq] at hr
    obtain ⟨rfl, rfl, rfl⟩ := hr
    exact wp_skip (hK a w ι he hrel (Agree.refl _ _) (Below.refl _ _) rfl)
  | .exit id, Q, ι, e, h, x, e', h', a, w, hr, hok, he, hrel, hK => by
    simp only [exec, Option.some.injEq, Prod.mk.injEq] at hr
    obtain ⟨rfl, rfl, rfl⟩ := hr
    exact wp_exit (hK a w ι he hrel (Agree.refl _ _) (Below.refl _ _) rfl)
  | .ret, Q, ι, e, h, x, e', h', a, w, hr, hok, he, hrel, hK => by
    simp only [exec, Option.some.injEq, Prod.mk.injEq] at hr
    obtain ⟨rfl, rfl, rfl⟩ := hr
    exact wp_ret (hK a w ι he hrel (Agree.refl _ _) (Below.refl _ _) rfl)
  | .rangeFunc _ _ _ _, _, _, _, _, _, _, _, _, _, hr, _, _, _, _ | .scope _, _, _, _, _, _, _, _, _, _, hr, _, _, _, _ | .label _, _, _, _, _, _, _, _, _, _, hr, _, _, _, _ | .goto _, _, _, _, _, _, _, _, _, _, hr, _, _, _, _ | .refuse _, _, _, _, _, _, _, _, _, _, hr, _, _, _, _ => by simp [exec] at hr

/-- What is handed back. -/
theorem results_rel {ι : Map} {h : H} {w : World} {e : Env} {a : Act} (he : EnvRel ι h e a.tmps) (hrel : Rel ι base h w) : ∀ (l : List ResultVar) (vs : List V), resultsOf P e h l = some vs →
    ∃ vs' : List Value, (l.mapM fun r => (match r with
      | .tmp t => pure (a.tmps.getD t Go.undef)
      | .cell x t => do loadVar t (← asAddr (a.tmps.getD x Go.undef)) : Sem Value)).run P w = .ok vs' w ∧ RelVs ι h vs vs'
  | [], vs, hr => by
    simp only [resultsOf, Option.some.injEq] at hr
    subst hr
    exact ⟨[], rfl, by simp [RelVs]⟩
  | r :: l, vs, hr => by
    simp only [resultsOf] at hr
    split at hr
    · rename_i v hv
      obtain ⟨us, hu, he'⟩ := Option.map_eq_some_iff.1 hr
      subst he'
      obtain ⟨vs', h1, h2⟩ := results_rel he hrel l us hu
      have one : ∃ v', ((match r with
          | .tmp t => pure (a.tmps.getD t Go.undef)
          | .cell x t => do loadVar t (← asAddr (a.tmps.getD x Go.undef)) : Sem Value)).run P w = .ok v' w ∧ RelV ι h v v' := by
        cases r with
        | tmp t =>
          simp only [resultOf, Option.some.injEq] at hv
          subst hv
          exact ⟨_, rfl, he.2 t⟩
        | cell x t =>
          simp only [resultOf] at hv
          obtain ⟨v', g1, g2⟩ := sim_readVar hv hrel (he.2 x)
          refine ⟨v', ?_, g2⟩
          have hx := he.2 x
          unfold readVar at hv
          split at hv
          · split at hv
            · rename_i b off ver z hb
              rw [hb] at hx
              simp only [RelV] at hx
              obtain ⟨_, _, _, hx⟩ := hx
              show (do loadVar t (← asAddr (a.tmps.getD x Go.undef)) : Sem Value).run P w = _
              rw [hx] at g1 ⊢
              unfold Instr.loadAt at g1
              simp only [Instr.sureAddr, Sem.run_bind, Sem.run_pure, Result.andThen_ok] at g1
              simp only [asAddr, Sem.run_bind, Sem.run_pure, Result.andThen_ok]
              exact g1
            · cases hv
          · cases hv
      obtain ⟨v', h3, h4⟩ := one
      refine ⟨v' :: vs', ?_, by simp only [RelVs]; exact ⟨h4, h2⟩⟩
      simp only [List.mapM_cons, Sem.run_bind, h3, h1, Result.andThen_ok, Sem.run_pure]
    · cases hr

theorem results_ok {ι : Map} {h : H} {w : World} {e : Env} {a : Act} {fn : Func} (he : EnvRel ι h e a.tmps) (hrel : Rel ι base h w) {vs : List V} (hr : resultsOf P e h fn.results.toList = some vs) :
    ∃ v', (results fn a.tmps).run P w = .ok v' w ∧ RelV ι h (tupOf vs) v' := by
  obtain ⟨vs', h1, h2⟩ := results_rel (a := a) he hrel _ _ hr
  unfold results
  rw [Array.mapM_eq_mapM_toList]
  simp only [Sem.run_bind, Sem.run_map]
  refine ⟨if h : vs'.toArray.size = 1 then vs'.toArray[0] else .tuple vs'.toArray, ?_, ?_⟩
  · refine (congrArg (fun r : Result (List Value) => (r.andThen fun a w' => Result.ok a.toArray w').andThen fun a w' => Result.ok (if h : a.size = 1 then a[0] else Value.tuple a) w') h1).trans ?_
    rfl
  · match vs, vs', h2 with
    | [], [], _ => simp [tupOf, RelV]
    | [u], [v], h2 =>
      simp only [RelVs] at h2
      simpa [tupOf] using h2.1
    | u :: u' :: l, v :: v' :: m, h2 =>
      simp only [tupOf, RelV]
      right
      exact ⟨_, by simp, h2⟩
    | [], _ :: _, h2 => simp [RelVs] at h2
    | _ :: _, [], h2 => simp [RelVs] at h2
    | [_], _ :: _ :: _, h2 => simp [RelVs] at h2
    | _ :: _ :: _, [_], h2 => simp [RelVs] at h2
end

end Go.Hl
