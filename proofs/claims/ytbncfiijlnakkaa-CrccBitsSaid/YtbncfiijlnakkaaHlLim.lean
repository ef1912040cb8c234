import Derived.Test.YtbncfiijlnakkaaHlCall
/-! Hl: calls without a bound on their depth or their rounds. -/
namespace Go.Hl

/-- It holds by finitely many calls. -/
def Uses (call : CallT) (Φ : CallT → Prop) : Prop :=
  ∃ l : List (FuncId × List V × H × V × H), (∀ x ∈ l, call x.1 x.2.1 x.2.2.1 = some x.2.2.2) ∧ ∀ c', (∀ x ∈ l, c' x.1 x.2.1 x.2.2.1 = some x.2.2.2) → Φ c'

theorem Uses.none {call : CallT} {Φ : CallT → Prop} (h : ∀ c, Φ c) : Uses call Φ := ⟨[], by simp, fun c _ => h c⟩
theorem Uses.map {call : CallT} {Φ Ψ : CallT → Prop} (a : Uses call Φ) (h : ∀ c, Φ c → Ψ c) : Uses call Ψ := by
  obtain ⟨l, h1, h2⟩ := a
  exact ⟨l, h1, fun c hc => h c (h2 c hc)⟩
theorem Uses.and {call : CallT} {Φ Ψ X : CallT → Prop} (a : Uses call Φ) (b : Uses call Ψ) (h : ∀ c, Φ c → Ψ c → X c) : Uses call X := by
  obtain ⟨l, h1, h2⟩ := a
  obtain ⟨m, h3, h4⟩ := b
  refine ⟨l ++ m, fun x hx => ?_, fun c hc => h c (h2 c fun x hx => hc x (by simp [hx])) (h4 c fun x hx => hc x (by simp [hx]))⟩
  rcases List.mem_append.1 hx with hx | hx
  · exact h1 x hx
  · exact h3 x hx
theorem Uses.self {call : CallT} {Φ : CallT → Prop} (a : Uses call Φ) : Φ call := by
  obtain ⟨l, h1, h2⟩ := a
  exact h2 call h1
theorem Uses.le {call c' : CallT} {Φ : CallT → Prop} (a : Uses call Φ) (h : ∀ f x y r, call f x y = some r → c' f x y = some r) : Φ c' := by
  obtain ⟨l, h1, h2⟩ := a
  exact h2 c' fun x hx => h _ _ _ _ (h1 x hx)

section
variable {P : Program} {call : CallT}

theorem uses_step {o : Oper} {ρ : Operand → V} {h : H} {r : V × H} (hs : step call P o ρ h = some r) : Uses call fun c => step c P o ρ h = some r := by
  cases hk : kindOf P o.op with
  | call =>
    have e : ∀ c : CallT, step c P o ρ h = callOp c o.op ρ h := fun c => by simp [step, hk]
    rw [e] at hs
    unfold callOp at hs
    split at hs
    · rename_i _ y z w hop
      split at hs
      · rename_i _ g first caps hf
        refine ⟨[(g, first ++ z.toList.map ρ ++ caps, h, r)], by simpa using hs, fun c hc => ?_⟩
        show step c P o ρ h = some r
        rw [e]
        have := hc _ (List.mem_singleton.2 rfl)
        simp only [callOp, hop, hf]
        exact this
      · cases hs
    · cases hs
  | pure | read | act | no =>
    refine Uses.none fun c => ?_
    have : step c P o ρ h = step call P o ρ h := by simp [step, hk]
    rw [this]
    exact hs

theorem uses_runOps {ops : List Oper} : ∀ (n : Nat) (ctx : Option (Nat × Bool)) (l : List Oper) (e : Env) (h : H) (r : Env × H), runOps call P ops n ctx l e h = some r → Uses call fun c => runOps c P ops n ctx l e h = some r
  | n, ctx, [], e, h, r, hr => by
    refine Uses.none fun c => ?_
    have : some (e, h) = some r := by cases n <;> simpa [runOps] using hr
    cases n <;> simpa [runOps] using this
  | 0, _, _ :: _, _, _, _, hr => by simp [runOps] at hr
  | n + 1, ctx, o :: l, e, h, r, hr => by
    unfold runOps at hr
    split at hr
    · rename_i hg
      obtain ⟨s, hs, hr⟩ := Option.bind_eq_some_iff.1 hr
      refine (uses_step hs).and (uses_runOps n ctx l _ _ _ hr) fun c h1 h2 => ?_
      unfold runOps
      rw [if_pos hg, h1]
      exact h2
    · rename_i hg
      cases hgd : o.guard with
      | none => simp [hgd] at hr
      | some qw =>
        obtain ⟨q, w⟩ := qw
        simp only [hgd] at hr
        cases hq : dstOf ops q with
        | none => simp [hq] at hr
        | some d =>
          simp only [hq] at hr
          cases hb : e.getD d .undef with
          | bool b =>
            rw [hb] at hr
            simp only at hr
            cases hdr : (o :: l).drop (ahead d (o :: l)) with
            | nil => simp [hdr] at hr
            | cons pk rest' =>
              obtain ⟨x, y, hpk⟩ := ahead_spec d (o :: l) pk rest' hdr
              obtain ⟨pdst, pop, ptype, ppos, pafter, pguard⟩ := pk
              simp only at hpk
              subst hpk
              simp only [hdr] at hr
              obtain ⟨s, hs, hr⟩ := Option.bind_eq_some_iff.1 hr
              have h1 : Uses call fun c => cond (b == w) ((runOps c P ops n (some (q, w)) ((o :: l).take (ahead d (o :: l))) e h).map fun r => (ev r.1 (cond w x y), r.2)) (some (ev (forget ((o :: l).take (ahead d (o :: l))) e) (cond w y x), h)) = some s := by
                cases hbw : (b == w) with
                | true =>
                  rw [hbw] at hs
                  simp only [cond_true] at hs ⊢
                  obtain ⟨r', h1, h2⟩ := Option.map_eq_some_iff.1 hs
                  exact (uses_runOps n _ _ _ _ _ h1).map fun c hc => by rw [hc]; simp [h2]
                | false =>
                  rw [hbw] at hs
                  exact Uses.none fun c => hs
              refine h1.and (uses_runOps n ctx _ _ _ _ hr) fun c h2 h3 => ?_
              unfold runOps
              rw [if_neg hg]
              simp only [hgd, hq, hb, hdr]
              rw [h2]
              exact h3
          | _ => rw [hb] at hr; simp at hr

theorem uses_lex {ops : List Oper} : ∀ (l : List Oper) (sk : List Bool) (e : Env) (h : H) (x : List Rec × Env × H), lexRun call P ops l sk e h = some x → Uses call fun c => lexRun c P ops l sk e h = some x
  | [], sk, e, h, x, hr => Uses.none fun c => by simpa [lexRun] using hr
  | o :: l, sk, e, h, x, hr => by
    simp only [lexRun] at hr
    obtain ⟨s, hs, hr⟩ := Option.bind_eq_some_iff.1 hr
    obtain ⟨r, hv, hr⟩ := Option.bind_eq_some_iff.1 hr
    obtain ⟨y, hl, hr⟩ := Option.bind_eq_some_iff.1 hr
    have h1 : Uses call fun c => cond s (some (V.undef, h)) (step c P o (ev e) h) = some r := by
      cases s with
      | true => exact Uses.none fun c => hv
      | false => exact uses_step hv
    refine h1.and (uses_lex l _ _ _ _ hl) fun c h2 h3 => ?_
    simp only [lexRun]
    rw [hs]
    simp only [Option.bind_some]
    rw [h2]
    simp only [Option.bind_some]
    rw [h3]
    exact hr

theorem uses_any {ops : List Oper} {F : List (Nat × Nat)} {e : Env} {h : H} {x : Env × H} (hr : runAny call P ops F e h = some x) : Uses call fun c => runAny c P ops F e h = some x := by
  unfold runAny at hr
  obtain ⟨y, hl, hr⟩ := Option.bind_eq_some_iff.1 hr
  refine (uses_lex _ _ _ _ _ hl).map fun c hc => ?_
  unfold runAny
  rw [hc]
  exact hr

theorem uses_exec {k : Nat} : ∀ (c : Code) (e : Env) (h : H) (r : Ex × Env × H), exec call P k c e h = some r → Uses call fun c' => ∀ k', k ≤ k' → exec c' P k' c e h = some r
  | .region _ ops false, e, h, r, hr => by
    simp only [exec] at hr ⊢
    obtain ⟨s, hs, hr⟩ := Option.map_eq_some_iff.1 hr
    exact (uses_runOps _ _ _ _ _ _ hs).map fun c hc k' _ => by rw [hc]; simp [hr]
  | .region _ ops true, e, h, r, hr => by
    simp only [exec] at hr ⊢
    obtain ⟨s, hs, hr⟩ := Option.map_eq_some_iff.1 hr
    exact (uses_any hs).map fun c hc k' _ => by rw [hc]; simp [hr]
  | .seq a b, e, h, r, hr => by
    simp only [exec] at hr ⊢
    split at hr
    · rename_i e1 h1 ha
      refine (uses_exec a _ _ _ ha).and (uses_exec b _ _ _ hr) fun c h2 h3 k' hk => ?_
      rw [h2 k' hk]
      exact h3 k' hk
    · rename_i hne
      refine (uses_exec a _ _ _ hr).map fun c h2 k' hk => ?_
      rw [h2 k' hk]
      obtain ⟨x, e1, h1⟩ := r
      cases x
      · exact absurd hr (hne e1 h1)
      · rfl
      · rfl
  | .cond x a b, e, h, r, hr => by
    simp only [exec] at hr ⊢
    split at hr
    · rename_i t ht
      cases t
      · exact (uses_exec b _ _ _ hr).map fun c h2 k' hk => h2 k' hk
      · exact (uses_exec a _ _ _ hr).map fun c h2 k' hk => h2 k' hk
    · cases hr
  | .block id b, e, h, r, hr => by
    simp only [exec] at hr ⊢
    split at hr
    · rename_i j e1 h1 hb
      refine (uses_exec b _ _ _ hb).map fun c h2 k' hk => ?_
      rw [h2 k' hk]
      exact hr
    · rename_i hne
      refine (uses_exec b _ _ _ hr).map fun c h2 k' hk => ?_
      rw [h2 k' hk]
      obtain ⟨x, e1, h1⟩ := r
      cases x
      · rfl
      · exact absurd hr (hne _ e1 h1)
      · rfl
  | .loop b, e, h, r, hr => by
    simp only [exec] at hr ⊢
    have key : ∀ n e h, iter (exec call P k b) n e h = some r → Uses call fun c' => ∀ k', k ≤ k' → ∀ n', n ≤ n' → iter (exec c' P k' b) n' e h = some r := by
      intro n
      induction n with
      | zero => intro e h hi; simp [iter] at hi
      | succ n ih =>
        intro e h hi
        simp only [iter] at hi
        split at hi
        · rename_i e1 h1 hb
          refine (uses_exec b _ _ _ hb).and (ih _ _ hi) fun c h2 h3 k' hk n' hn => ?_
          obtain ⟨m, rfl⟩ : ∃ m, n' = m + 1 := ⟨n' - 1, by omega⟩
          simp only [iter]
          rw [h2 k' hk]
          exact h3 k' hk m (by omega)
        · rename_i hne
          refine (uses_exec b _ _ _ hi).map fun c h2 k' hk n' hn => ?_
          obtain ⟨m, rfl⟩ : ∃ m, n' = m + 1 := ⟨n' - 1, by omega⟩
          simp only [iter]
          rw [h2 k' hk]
          obtain ⟨x, e1, h1⟩ := r
          cases x
          · exact absurd hi (hne e1 h1)
          · rfl
          · rfl
    exact (key k e h hr).map fun c hc k' hk => hc k' hk k' hk
  | .skip, e, h, r, hr | .exit _, e, h, r, hr | .ret, e, h, r, hr => by
    simp only [exec] at hr ⊢
    exact Uses.none fun c k' _ => hr
  | .rangeFunc _ _ _ _, _, _, _, hr | .scope _, _, _, _, hr | .label _, _, _, _, hr | .goto _, _, _, _, hr | .refuse _, _, _, _, hr => by simp [exec] at hr

theorem finish_some {fn : Func} {h : H} {o : Out} {r : V × H} (hf : finish P fn h o = some r) : ∃ x, o = some x := by
  cases o with
  | none => simp [finish] at hf
  | some x => exact ⟨x, rfl⟩

theorem callF_mono : ∀ k f args h r, callF P k f args h = some r → ∀ k', k ≤ k' → callF P k' f args h = some r
  | 0, _, _, _, _, hr, _, _ => by simp [callF] at hr
  | k + 1, f, args, h, r, hr, k', hk => by
    obtain ⟨m, rfl⟩ : ∃ m, k' = m + 1 := ⟨k' - 1, by omega⟩
    simp only [callF] at hr ⊢
    split at hr
    · rename_i fn hf
      split at hr
      · split at hr
        · rename_i c hc
          obtain ⟨x, hx⟩ := finish_some hr
          have h2 := (uses_exec c _ _ _ hx).le (c' := callF P m) (fun f x y r hh => callF_mono k f x y r hh m (by omega)) m (by omega)
          rw [if_pos ‹fnOk P fn = true›, h2]
          rw [hx] at hr
          exact hr
        · cases hr
      · cases hr
    · cases hr

open Classical in
/-- A call, as deep and as long as it takes. -/
noncomputable def Does (P : Program) : CallT := fun f args h => if x : ∃ k r, callF P k f args h = some r then some x.choose_spec.choose else none

theorem Does_iff {f : FuncId} {args : List V} {h : H} {r : V × H} : Does P f args h = some r ↔ ∃ k, callF P k f args h = some r := by
  unfold Does
  constructor
  · intro hc
    split at hc
    · rename_i x
      injection hc with hc
      exact ⟨x.choose, hc ▸ x.choose_spec.choose_spec⟩
    · cases hc
  · rintro ⟨k, hk⟩
    have x : ∃ k r, callF P k f args h = some r := ⟨k, r, hk⟩
    rw [dif_pos x]
    have h1 := callF_mono _ _ _ _ _ x.choose_spec.choose_spec (max x.choose k) (Nat.le_max_left _ _)
    have h2 := callF_mono _ _ _ _ _ hk (max x.choose k) (Nat.le_max_right _ _)
    rw [h1] at h2
    exact h2

open Classical in
/-- Code, as long as it takes. -/
noncomputable def Exec (P : Program) (c : Code) (e : Env) (h : H) : Out := if x : ∃ k r, exec (Does P) P k c e h = some r then some x.choose_spec.choose else none

theorem exec_mono {k k' : Nat} {c : Code} {e : Env} {h : H} {r : Ex × Env × H} (hr : exec call P k c e h = some r) (hk : k ≤ k') : exec call P k' c e h = some r := (uses_exec c e h r hr).self k' hk

theorem Exec_iff {c : Code} {e : Env} {h : H} {r : Ex × Env × H} : Exec P c e h = some r ↔ ∃ k, exec (Does P) P k c e h = some r := by
  unfold Exec
  constructor
  · intro hc
    split at hc
    · rename_i x
      injection hc with hc
      exact ⟨x.choose, hc ▸ x.choose_spec.choose_spec⟩
    · cases hc
  · rintro ⟨k, hk⟩
    have x : ∃ k r, exec (Does P) P k c e h = some r := ⟨k, r, hk⟩
    rw [dif_pos x]
    have h1 := exec_mono x.choose_spec.choose_spec (Nat.le_max_left x.choose k)
    have h2 := exec_mono hk (Nat.le_max_right x.choose k)
    rw [h1] at h2
    exact h2

/-- Finitely many calls have a bound. -/
theorem uses_bound {Φ : CallT → Prop} (hu : Uses (Does P) Φ) : ∃ k, ∀ m, k ≤ m → Φ (callF P m) := by
  obtain ⟨l, h1, h2⟩ := hu
  have : ∃ k, ∀ x ∈ l, ∀ m, k ≤ m → callF P m x.1 x.2.1 x.2.2.1 = some x.2.2.2 := by
    clear h2
    induction l with
    | nil => exact ⟨0, by simp⟩
    | cons y l ih =>
      obtain ⟨k, hk⟩ := ih fun x hx => h1 x (by simp [hx])
      obtain ⟨j, hj⟩ := Does_iff.1 (h1 y (by simp))
      refine ⟨max j k, fun x hx m hm => ?_⟩
      rcases List.mem_cons.1 hx with rfl | hx
      · exact callF_mono _ _ _ _ _ hj m (by omega)
      · exact hk x hx m (by omega)
  obtain ⟨k, hk⟩ := this
  exact ⟨k, fun m hm => h2 _ fun x hx => hk x hx m hm⟩

/-- What a call does, by its code. -/
theorem Does_of {f : FuncId} {fn : Func} {c : Code} {args : List V} {h : H} {r : V × H} (hf : P.funcs[f]? = some fn) (hok : fnOk P fn = true) (hb : fn.body = some c)
    (hr : finish P fn h (Exec P c (enter fn args) { blks := h.blks, esc := [] }) = some r) : Does P f args h = some r := by
  obtain ⟨x, hx⟩ := finish_some hr
  obtain ⟨k, hk⟩ := Exec_iff.1 hx
  obtain ⟨j, hj⟩ := uses_bound (uses_exec c _ _ _ hk)
  refine Does_iff.2 ⟨max j k + 1, ?_⟩
  have e : callF P (max j k + 1) f args h = finish P fn h (exec (callF P (max j k)) P (max j k) c (enter fn args) { blks := h.blks, esc := [] }) := by
    simp [callF, hf, hok, hb]
  rw [e, hj (max j k) (Nat.le_max_left _ _) (max j k) (Nat.le_max_right _ _), ← hx]
  exact hr

/-- And what the program does. -/
theorem Does_ok (hmix : P.follows .mixedOrders = true) : CallsOk (Does P) P := fun f args h v h' hc => by
  obtain ⟨k, hk⟩ := Does_iff.1 hc
  exact callF_ok hmix k f args h v h' hk

theorem Exec_skip {e : Env} {h : H} : Exec P .skip e h = some (.normal, e, h) := Exec_iff.2 ⟨0, rfl⟩
theorem Exec_ret {e : Env} {h : H} : Exec P .ret e h = some (.ret, e, h) := Exec_iff.2 ⟨0, rfl⟩
theorem Exec_exit {id : Nat} {e : Env} {h : H} : Exec P (.exit id) e h = some (.exit id, e, h) := Exec_iff.2 ⟨0, rfl⟩
theorem Exec_region {id : Nat} {ops : Array Oper} {e : Env} {h : H} : Exec P (.region id ops false) e h = (runOps (Does P) P ops.toList ops.size none ops.toList e h).map fun r => (.normal, r.1, r.2) := by
  refine Option.ext fun r => ?_
  rw [Exec_iff]
  exact ⟨fun ⟨k, hk⟩ => hk, fun hk => ⟨0, hk⟩⟩
theorem Exec_any {id : Nat} {ops : Array Oper} {e : Env} {h : H} : Exec P (.region id ops true) e h = (runAny (Does P) P ops.toList (floats P ops.toList (waits ops.toList [])) e h).map fun r => (.normal, r.1, r.2) := by
  refine Option.ext fun r => ?_
  rw [Exec_iff]
  exact ⟨fun ⟨k, hk⟩ => hk, fun hk => ⟨0, hk⟩⟩
theorem Exec_cond {c : Operand} {a b : Code} {e : Env} {h : H} : Exec P (.cond c a b) e h = match ev e c with
    | .bool t => cond t (Exec P a e h) (Exec P b e h)
    | _ => none := by
  refine Option.ext fun r => ?_
  rw [Exec_iff]
  simp only [exec]
  split
  · rename_i t ht
    rw [ht]
    cases t <;> simp only [cond_true, cond_false, Exec_iff]
  · rename_i hne
    constructor
    · rintro ⟨k, hk⟩
      cases hk
    · intro hk
      split at hk
      · rename_i t ht
        exact absurd ht (hne t)
      · cases hk
theorem Exec_seq {a b : Code} {e : Env} {h : H} : Exec P (.seq a b) e h = match Exec P a e h with
    | some (.normal, e', h') => Exec P b e' h'
    | r => r := by
  refine Option.ext fun r => ?_
  rw [Exec_iff]
  constructor
  · rintro ⟨k, hk⟩
    simp only [exec] at hk
    split at hk
    · rename_i e1 h1 ha
      rw [Exec_iff.2 ⟨k, ha⟩]
      exact Exec_iff.2 ⟨k, hk⟩
    · rename_i hne
      rw [Exec_iff.2 ⟨k, hk⟩]
      obtain ⟨x, e1, h1⟩ := r
      cases x
      · exact absurd hk (hne e1 h1)
      · rfl
      · rfl
  · intro hr
    split at hr
    · rename_i e1 h1 ha
      obtain ⟨k, hk⟩ := Exec_iff.1 ha
      obtain ⟨j, hj⟩ := Exec_iff.1 hr
      refine ⟨max k j, ?_⟩
      simp only [exec]
      rw [exec_mono hk (Nat.le_max_left k j)]
      exact exec_mono hj (Nat.le_max_right k j)
    · rename_i hne
      obtain ⟨k, hk⟩ := Exec_iff.1 hr
      refine ⟨k, ?_⟩
      simp only [exec]
      rw [hk]
      obtain ⟨x, e1, h1⟩ := r
      cases x
      · exact absurd hr (hne e1 h1)
      · rfl
      · rfl
theorem Exec_block {id : Nat} {b : Code} {e : Env} {h : H} : Exec P (.block id b) e h = match Exec P b e h with
    | some (.exit j, e', h') => if j = id then some (.normal, e', h') else some (.exit j, e', h')
    | r => r := by
  refine Option.ext fun r => ?_
  rw [Exec_iff]
  simp only [exec]
  constructor
  · rintro ⟨k, hk⟩
    split at hk
    · rename_i j e1 h1 ha
      rw [Exec_iff.2 ⟨k, ha⟩]
      exact hk
    · rename_i hne
      rw [Exec_iff.2 ⟨k, hk⟩]
      obtain ⟨x, e1, h1⟩ := r
      cases x
      · rfl
      · exact absurd hk (hne _ e1 h1)
      · rfl
  · intro hr
    split at hr
    · rename_i j e1 h1 ha
      obtain ⟨k, hk⟩ := Exec_iff.1 ha
      refine ⟨k, ?_⟩
      rw [hk]
      exact hr
    · rename_i hne
      obtain ⟨k, hk⟩ := Exec_iff.1 hr
      refine ⟨k, ?_⟩
      rw [hk]
      obtain ⟨x, e1, h1⟩ := r
      cases x
      · rfl
      · exact absurd hr (hne _ e1 h1)
      · rfl

theorem iter_mono {call : CallT} {b : Code} {k k' : Nat} (hk : k ≤ k') : ∀ n n', n ≤ n' → ∀ e h r, iter (exec call P k b) n e h = some r → iter (exec call P k' b) n' e h = some r
  | 0, _, _, _, _, _, hi => by simp [iter] at hi
  | n + 1, n', hn, e, h, r, hi => by
    obtain ⟨m, rfl⟩ : ∃ m, n' = m + 1 := ⟨n' - 1, by omega⟩
    simp only [iter] at hi ⊢
    split at hi
    · rename_i e1 h1 hb
      rw [exec_mono hb hk]
      exact iter_mono hk n m (by omega) _ _ _ hi
    · rename_i hne
      rw [exec_mono hi hk]
      obtain ⟨x, e1, h1⟩ := r
      cases x
      · exact absurd hi (hne e1 h1)
      · rfl
      · rfl

theorem Exec_loop {b : Code} {e : Env} {h : H} : Exec P (.loop b) e h = match Exec P b e h with
    | some (.normal, e', h') => Exec P (.loop b) e' h'
    | r => r := by
  refine Option.ext fun r => ?_
  rw [Exec_iff]
  simp only [exec]
  constructor
  · rintro ⟨k, hk⟩
    cases k with
    | zero => simp [iter] at hk
    | succ k =>
      simp only [iter] at hk
      split at hk
      · rename_i e1 h1 ha
        rw [Exec_iff.2 ⟨_, ha⟩]
        refine Exec_iff.2 ⟨k + 1, ?_⟩
        simp only [exec]
        exact iter_mono (Nat.le_refl _) k (k + 1) (by omega) _ _ _ hk
      · rename_i hne
        rw [Exec_iff.2 ⟨_, hk⟩]
        obtain ⟨x, e1, h1⟩ := r
        cases x
        · exact absurd hk (hne e1 h1)
        · rfl
        · rfl
  · intro hr
    split at hr
    · rename_i e1 h1 ha
      obtain ⟨k, hk⟩ := Exec_iff.1 ha
      obtain ⟨j, hj⟩ := Exec_iff.1 hr
      simp only [exec] at hj
      refine ⟨max k j + 1, ?_⟩
      simp only [iter]
      rw [exec_mono hk (by omega : k ≤ max k j + 1)]
      exact iter_mono (by omega) j (max k j) (Nat.le_max_right _ _) _ _ _ hj
    · rename_i hne
      obtain ⟨k, hk⟩ := Exec_iff.1 hr
      refine ⟨k + 1, ?_⟩
      simp only [iter]
      rw [exec_mono hk (by omega : k ≤ k + 1)]
      obtain ⟨x, e1, h1⟩ := r
      cases x
      · exact absurd hr (hne e1 h1)
      · rfl
      · rfl
end

end Go.Hl
