import Derived.Test.YtbncfiijlnakkaaHlRegion
/-! Hl: an operation looks at its operands alone. -/
namespace Go.Hl

theorem callPure_congr {P : Program} {c : Call} {ρ σ : Operand → V} (h : ∀ x ∈ c.operands, ρ x = σ x) : callPure P c ρ = callPure P c σ := by
  obtain ⟨callee, args, ts⟩ := c
  have hargs : ∀ x ∈ args.toList, ρ x = σ x := fun x hx => h x (by simp [Call.operands]; exact .inr (by simpa using hx))
  unfold callPure
  split
  · split
    · split
      · rename_i hx
        rw [hargs _ (by simp only at hx; rw [hx]; simp)]
      · rfl
    · split
      · rename_i hx
        simp only at hx
        rw [hargs _ (by rw [hx]; simp), hargs _ (by rw [hx]; simp)]
      · rfl
    · split
      · rename_i hx
        simp only at hx
        rw [hargs _ (by rw [hx]; simp), hargs _ (by rw [hx]; simp)]
      · rfl
    · rfl
  · rfl

theorem parts_congr {ρ σ : Operand → V} {parts : Array (Nat × Operand)} (h : ∀ x ∈ (parts.toList.map (·.2)).toArray, ρ x = σ x) : (parts.toList.map fun p => (p.1, ρ p.2)) = parts.toList.map fun p => (p.1, σ p.2) :=
  List.map_congr_left fun p hp => by rw [h p.2 (by simp; exact ⟨p.1, by simpa using hp⟩)]
theorem partsU_congr {ρ σ : Operand → V} {parts : Array (Nat × Operand)} (h : ∀ x ∈ (parts.toList.map (·.2)).toArray, ρ x = σ x) : parts.toList.any (fun p => (ρ p.2).isU) = parts.toList.any (fun p => (σ p.2).isU) := by
  rw [Bool.eq_iff_iff, List.any_eq_true, List.any_eq_true]
  constructor <;> rintro ⟨p, hp, hu⟩ <;> refine ⟨p, hp, ?_⟩
  · rw [← h p.2 (by simp; exact ⟨p.1, by simpa using hp⟩)]; exact hu
  · rw [h p.2 (by simp; exact ⟨p.1, by simpa using hp⟩)]; exact hu

theorem pureOp_congr {P : Program} {o : Oper} {ρ σ : Operand → V} (h : ∀ x ∈ o.op.operands, ρ x = σ x) : pureOp P o ρ = pureOp P o σ := by
  unfold pureOp
  cases ho : o.op <;> rw [ho] at h <;> simp only [Op.operands] at h <;> try simp only
  case build t ps => rw [partsU_congr h, parts_congr h]
  case slice t x lo hi mx =>
    cases mx with
    | some _ => rfl
    | none =>
      have hx : ρ x = σ x := h x (by simp)
      have hlo : lo.map ρ = lo.map σ := by cases lo with
        | none => rfl
        | some y => simp only [Option.map_some]; rw [h y (by simp)]
      have hhi : hi.map ρ = hi.map σ := by cases hi with
        | none => rfl
        | some y => simp only [Option.map_some]; rw [h y (by simp)]
      simp only [hx, hlo, hhi]
  case call c => exact callPure_congr h
  case makeFunc f a c =>
    rw [List.map_congr_left (l := a.toList) (fun x hx => h x (by simp; exact .inl (by simpa using hx))), List.map_congr_left (l := c.toList) (fun x hx => h x (by simp; exact .inr (by simpa using hx)))]
  all_goals (try simp only [List.mem_toArray, List.mem_cons, List.not_mem_nil, or_false, forall_eq_or_imp, forall_eq] at h)
  all_goals (first | rfl | (simp only [h]; done) | (obtain ⟨h1, h2⟩ := h; simp only [h1, h2]; done) | (obtain ⟨h1, h2, h3⟩ := h; simp only [h1, h2, h3]; done))

theorem readOp_congr {P : Program} {op : Op} {ρ σ : Operand → V} {m : H} (h : ∀ x ∈ op.operands, ρ x = σ x) : readOp P op ρ m = readOp P op σ m := by
  unfold readOp
  cases op <;> simp only [Op.operands] at h <;> try simp only
  all_goals (try simp only [List.mem_toArray, List.mem_cons, List.not_mem_nil, or_false, forall_eq_or_imp, forall_eq] at h)
  all_goals (first | rfl | (simp only [h]; done))

theorem actOp_congr {P : Program} {op : Op} {ρ σ : Operand → V} {m : H} (h : ∀ x ∈ op.operands, ρ x = σ x) : actOp P op ρ m = actOp P op σ m := by
  unfold actOp
  cases op <;> simp only [Op.operands] at h <;> try simp only
  case buildSlice t n ps => rw [partsU_congr h, parts_congr h]
  case call c =>
    obtain ⟨callee, args, ts⟩ := c
    cases callee with
    | builtin b =>
      cases b <;> simp only
      have hargs : ∀ x ∈ args.toList, ρ x = σ x := fun x hx => h x (by simp [Call.operands]; exact (by simpa using hx))
      split
      · rename_i hx _
        rw [hargs _ (by rw [hx]; simp), hargs _ (by rw [hx]; simp)]
      · rfl
    | _ => rfl
  all_goals (try simp only [List.mem_toArray, List.mem_cons, List.not_mem_nil, or_false, forall_eq_or_imp, forall_eq] at h)
  all_goals (first | rfl | (simp only [h]; done) | (obtain ⟨h1, h2⟩ := h; simp only [h1, h2]; done))

theorem callOp_congr {call : CallT} {op : Op} {ρ σ : Operand → V} {m : H} (h : ∀ x ∈ op.operands, ρ x = σ x) : callOp call op ρ m = callOp call op σ m := by
  unfold callOp
  cases op <;> simp only [Op.operands] at h <;> try simp only
  case call c =>
    obtain ⟨callee, args, ts⟩ := c
    cases callee with
    | value f =>
      simp only [Call.operands] at h
      have hf : ρ f = σ f := h f (by simp)
      have hargs : args.toList.map ρ = args.toList.map σ := List.map_congr_left fun x hx => h x (by simp; exact .inr (by simpa using hx))
      simp only [hf, hargs]
    | _ => rfl

theorem step_congr {call : CallT} {P : Program} {o : Oper} {ρ σ : Operand → V} {m : H} (h : ∀ x ∈ o.op.operands, ρ x = σ x) : step call P o ρ m = step call P o σ m := by
  unfold step
  split
  · rw [pureOp_congr h]
  · rw [readOp_congr h]
  · exact actOp_congr h
  · exact callOp_congr h
  · rfl

end Go.Hl
