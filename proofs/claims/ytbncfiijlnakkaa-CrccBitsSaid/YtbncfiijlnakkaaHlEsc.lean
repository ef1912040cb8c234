import Derived.Test.YtbncfiijlnakkaaHlAny4
/-! Hl: what a call leaves behind names what it is noted to name. -/
namespace Go.Hl

mutual
theorem upto_ge {n : Nat} : ∀ {u : V} {r : Nat}, r ∈ V.upto n u → n ≤ r ∧ ∀ b, b ≤ n → r ∈ V.upto b u
  | .ptr c _ _ _, r, h => by
    simp only [V.upto] at h ⊢
    split at h
    · simp at h
    · rename_i hc
      simp only [List.mem_singleton] at h
      subst h
      exact ⟨by omega, fun b hb => by rw [if_neg (by omega)]; simp⟩
  | .sl c _ _ _ _ _, r, h => by
    simp only [V.upto] at h ⊢
    split at h
    · simp at h
    · rename_i hc
      simp only [List.mem_singleton] at h
      subst h
      exact ⟨by omega, fun b hb => by rw [if_neg (by omega)]; simp⟩
  | .fn _ x y, r, h => by
    simp only [V.upto, List.mem_append] at h ⊢
    rcases h with h | h
    · obtain ⟨h1, h2⟩ := uptos_ge h
      exact ⟨h1, fun b hb => .inl (h2 b hb)⟩
    · obtain ⟨h1, h2⟩ := uptos_ge h
      exact ⟨h1, fun b hb => .inr (h2 b hb)⟩
  | .agg l, r, h => by
    simp only [V.upto] at h ⊢
    exact uptos_ge h
  | .tup l, r, h => by
    simp only [V.upto] at h ⊢
    exact uptos_ge h
  | .iface _ x, r, h => by
    simp only [V.upto] at h ⊢
    exact upto_ge h
  | .bool _, _, h | .int _ _, _, h | .str _, _, h | .nilp, _, h | .nils, _, h | .nilf, _, h | .nili, _, h => by simp [V.upto] at h
theorem uptos_ge {n : Nat} : ∀ {l : List V} {r : Nat}, r ∈ V.uptos n l → n ≤ r ∧ ∀ b, b ≤ n → r ∈ V.uptos b l
  | [], _, h => by simp [V.uptos] at h
  | u :: l, r, h => by
    simp only [V.uptos, List.mem_append] at h ⊢
    rcases h with h | h
    · obtain ⟨h1, h2⟩ := upto_ge h
      exact ⟨h1, fun b hb => .inl (h2 b hb)⟩
    · obtain ⟨h1, h2⟩ := uptos_ge h
      exact ⟨h1, fun b hb => .inr (h2 b hb)⟩
end

theorem uptos_mem {n : Nat} : ∀ {l : List V} {u : V} {r : Nat}, u ∈ l → r ∈ V.upto n u → r ∈ V.uptos n l
  | u' :: l, u, r, hu, hr => by
    simp only [V.uptos, List.mem_append]
    rcases List.mem_cons.1 hu with rfl | hu
    · exact .inl hr
    · exact .inr (uptos_mem hu hr)
  | [], _, _, hu, _ => by simp at hu

mutual
theorem under_of_upto {n : Nat} : ∀ {u : V}, V.upto n u = [] → V.under n u = true
  | .ptr c _ _ _, h => by
    simp only [V.upto] at h
    split at h
    · rename_i hc; simpa [V.under] using hc
    · simp at h
  | .sl c _ _ _ _ _, h => by
    simp only [V.upto] at h
    split at h
    · rename_i hc; simpa [V.under] using hc
    · simp at h
  | .fn _ x y, h => by
    simp only [V.upto, List.append_eq_nil_iff] at h
    simp [V.under, unders_of_uptos h.1, unders_of_uptos h.2]
  | .agg l, h => by
    simp only [V.upto] at h
    simp [V.under, unders_of_uptos h]
  | .tup l, h => by
    simp only [V.upto] at h
    simp [V.under, unders_of_uptos h]
  | .iface _ x, h => by
    simp only [V.upto] at h
    simp [V.under, under_of_upto h]
  | .bool _, _ | .int _ _, _ | .str _, _ | .nilp, _ | .nils, _ | .nilf, _ | .nili, _ => by simp [V.under]
theorem unders_of_uptos {n : Nat} : ∀ {l : List V}, V.uptos n l = [] → V.unders n l = true
  | [], _ => by simp [V.unders]
  | u :: l, h => by
    simp only [V.uptos, List.append_eq_nil_iff] at h
    simp [V.unders, under_of_upto h.1, unders_of_uptos h.2]
end

mutual
theorem upto_of_under {n : Nat} : ∀ {u : V}, V.under n u = true → V.upto n u = []
  | .ptr c _ _ _, h => by
    simp only [V.under, decide_eq_true_eq] at h
    simp [V.upto, h]
  | .sl c _ _ _ _ _, h => by
    simp only [V.under, decide_eq_true_eq] at h
    simp [V.upto, h]
  | .fn _ x y, h => by
    simp only [V.under, Bool.and_eq_true] at h
    simp [V.upto, uptos_of_unders h.1, uptos_of_unders h.2]
  | .agg l, h => by
    simp only [V.under] at h
    simp [V.upto, uptos_of_unders h]
  | .tup l, h => by
    simp only [V.under] at h
    simp [V.upto, uptos_of_unders h]
  | .iface _ x, h => by
    simp only [V.under] at h
    simp [V.upto, upto_of_under h]
  | .bool _, _ | .int _ _, _ | .str _, _ | .nilp, _ | .nils, _ | .nilf, _ | .nili, _ => by simp [V.upto]
theorem uptos_of_unders {n : Nat} : ∀ {l : List V}, V.unders n l = true → V.uptos n l = []
  | [], _ => by simp [V.uptos]
  | u :: l, h => by
    simp only [V.unders, Bool.and_eq_true] at h
    simp [V.uptos, upto_of_under h.1, uptos_of_unders h.2]
end

/-- Elder blocks' names of younger ones are noted. -/
def EscOk (n : Nat) (E : List (Nat × Nat)) (h : H) : Prop := ∀ b k, b < n → h.blks[b]? = some k → ∀ u ∈ k.cells, ∀ r ∈ V.upto n u, (b, r) ∈ E ++ h.esc
def Grows (h h' : H) : Prop := h.size ≤ h'.size ∧ ∀ n E, n ≤ h.size → EscOk n E h → EscOk n E h'

theorem Grows.refl (h : H) : Grows h h := ⟨Nat.le_refl _, fun _ _ _ x => x⟩
theorem Grows.trans {a b c : H} (x : Grows a b) (y : Grows b c) : Grows a c := ⟨Nat.le_trans x.1 y.1, fun n E hn he => y.2 n E (Nat.le_trans hn x.1) (x.2 n E hn he)⟩

theorem grows_new (h : H) (cells : List V) : Grows h (h.new cells) := by
  refine ⟨by simp [H.new, H.size], fun n E hn he b k hb hk u hu r hr => ?_⟩
  rcases (H.new_get h cells).1 hk with hk | ⟨rfl, _⟩
  · exact he b k hb hk u hu r hr
  · omega

theorem grows_set {h h' : H} {b : Nat} {k k' : Blk} {vs : List V} (hk : h.blks[b]? = some k) (hb : h'.blks = h.blks.set b k') (hs : h'.esc = h.esc ++ escs b vs) (hc : ∀ u ∈ k'.cells, u ∈ k.cells ∨ u ∈ vs) : Grows h h' := by
  refine ⟨by simp [H.size, hb], fun n E hn he i ki hi hki u hu r hr => ?_⟩
  rw [hb] at hki
  rw [hs, ← List.append_assoc, List.mem_append]
  rcases (set_get _ hk).1 hki with ⟨h1, h2⟩ | ⟨_, hki⟩
  · subst h1 h2
    rcases hc u hu with hu | hu
    · exact .inl (he i k hi hk u hu r hr)
    · right
      obtain ⟨_, h4⟩ := upto_ge hr
      unfold escs
      rw [List.mem_map]
      exact ⟨r, uptos_mem hu (h4 i (by omega)), rfl⟩
  · exact .inl (he i ki hi hki u hu r hr)

theorem grows_write {h h' : H} {b off ver : Nat} {vs : List V} (hw : h.write b off ver vs = some h') : Grows h h' := by
  obtain ⟨k, hk, -, -, -, -, hb, hs⟩ := H.write_some hw
  refine grows_set hk hb hs fun u hu => ?_
  simp only [splice, List.mem_append] at hu
  rcases hu with (hu | hu) | hu
  · exact .inl (List.mem_of_mem_take hu)
  · exact .inr hu
  · exact .inl (List.mem_of_mem_drop hu)
theorem grows_grow {h h' : H} {b ver : Nat} {vs : List V} (hw : h.grow b ver vs = some h') : Grows h h' := by
  obtain ⟨k, hk, -, -, -, hb, hs⟩ := H.grow_some hw
  refine grows_set hk hb hs fun u hu => ?_
  simpa [List.mem_append] using hu

theorem grows_append {h h' : H} {esz m : Nat} {s v : V} {ys : List V} (ha : appendTo h esz s m ys = some (v, h')) : Grows h h' := by
  unfold appendTo at ha
  split at ha
  · split at ha
    · injection ha with ha
      injection ha with _ ha
      subst ha
      exact grows_new _ _
    · cases ha
  · split at ha
    · split at ha
      · injection ha with ha
        injection ha with _ ha
        subst ha
        exact grows_new _ _
      · cases ha
    · cases ha
  · split at ha
    · split at ha
      · split at ha
        · obtain ⟨h1, hg, he⟩ := Option.map_eq_some_iff.1 ha
          injection he with _ he
          rw [← he]
          exact grows_grow hg
        · split at ha
          · obtain ⟨h1, hg, he⟩ := Option.map_eq_some_iff.1 ha
            injection he with _ he
            rw [← he]
            exact grows_write hg
          · cases ha
      · cases ha
    · cases ha
  · cases ha

theorem grows_act {P : Program} {op : Op} {ρ : Operand → V} {h h' : H} {v : V} (ha : actOp P op ρ h = some (v, h')) : Grows h h' := by
  unfold actOp at ha
  repeat' split at ha
  all_goals first
    | (cases ha; done)
    | (injection ha with ha; injection ha with _ ha; subst ha; first | exact grows_new _ _ | exact Grows.refl _)
    | exact grows_append ha
    | (obtain ⟨h1, hg, he⟩ := Option.map_eq_some_iff.1 ha
       injection he with _ he
       rw [← he]
       exact grows_write hg)

theorem grows_step {call : CallT} {P : Program} (hcall : ∀ f args h v h', call f args h = some (v, h') → Grows h h') {o : Oper} {ρ : Operand → V} {h h' : H} {v : V} (hs : step call P o ρ h = some (v, h')) : Grows h h' := by
  unfold step at hs
  split at hs
  · cases hp : pureOp P o ρ with
    | none => simp [hp] at hs
    | some u =>
      simp only [hp, Option.map_some, Option.some.injEq, Prod.mk.injEq] at hs
      rw [← hs.2]
      exact Grows.refl _
  · cases hp : readOp P o.op ρ h with
    | none => simp [hp] at hs
    | some u =>
      simp only [hp, Option.map_some, Option.some.injEq, Prod.mk.injEq] at hs
      rw [← hs.2]
      exact Grows.refl _
  · exact grows_act hs
  · unfold callOp at hs
    split at hs
    · split at hs
      · exact hcall _ _ _ _ _ hs
      · cases hs
    · cases hs
  · cases hs

theorem grows_runOps {call : CallT} {P : Program} (hcall : ∀ f args h v h', call f args h = some (v, h') → Grows h h') {ops : List Oper} : ∀ (n : Nat) (ctx : Option (Nat × Bool)) (l : List Oper) (e : Env) (h : H) (e' : Env) (h' : H), runOps call P ops n ctx l e h = some (e', h') → Grows h h'
  | n, ctx, [], e, h, e', h', hr => by
    have : some (e, h) = some (e', h') := by cases n <;> simpa [runOps] using hr
    injection this with this
    injection this with _ this
    rw [← this]
    exact Grows.refl _
  | 0, _, _ :: _, _, _, _, _, hr => by simp [runOps] at hr
  | n + 1, ctx, o :: l, e, h, e', h', hr => by
    unfold runOps at hr
    split at hr
    · cases hs : step call P o (ev e) h with
      | none => simp [hs] at hr
      | some r =>
        simp only [hs, Option.bind_some] at hr
        exact (grows_step hcall hs).trans (grows_runOps hcall n ctx l _ _ _ _ hr)
    · cases hgd : o.guard with
      | none => simp [hgd] at hr
      | some qw =>
        obtain ⟨q, w⟩ := qw
        simp only [hgd] at hr
        cases hq : dstOf ops q with
        | none => simp [hq] at hr
        | some c =>
          simp only [hq] at hr
          cases hb : e.getD c .undef with
          | bool b =>
            rw [hb] at hr
            simp only at hr
            cases hdr : (o :: l).drop (ahead c (o :: l)) with
            | nil => simp [hdr] at hr
            | cons pk rest' =>
              obtain ⟨x, y, hpk⟩ := ahead_spec c (o :: l) pk rest' hdr
              obtain ⟨pdst, pop, ptype, ppos, pafter, pguard⟩ := pk
              simp only at hpk
              subst hpk
              simp only [hdr] at hr
              cases hcnd : cond (b == w) ((runOps call P ops n (some (q, w)) ((o :: l).take (ahead c (o :: l))) e h).map fun r => (ev r.1 (cond w x y), r.2)) (some (ev (forget ((o :: l).take (ahead c (o :: l))) e) (cond w y x), h)) with
              | none => simp [hcnd] at hr
              | some r =>
                simp only [hcnd, Option.bind_some] at hr
                have h1 : Grows h r.2 := by
                  cases hbw : (b == w) with
                  | true =>
                    rw [hbw] at hcnd
                    simp only [cond_true] at hcnd
                    cases hg' : runOps call P ops n (some (q, w)) ((o :: l).take (ahead c (o :: l))) e h with
                    | none => simp [hg'] at hcnd
                    | some r' =>
                      simp only [hg', Option.map_some, Option.some.injEq] at hcnd
                      rw [← hcnd]
                      exact grows_runOps hcall n _ _ _ _ r'.1 r'.2 hg'
                  | false =>
                    rw [hbw] at hcnd
                    simp only [cond_false, Option.some.injEq] at hcnd
                    rw [← hcnd]
                    exact Grows.refl _
                exact h1.trans (grows_runOps hcall n ctx _ _ _ _ _ hr)
          | _ => rw [hb] at hr; simp at hr

theorem grows_lex {call : CallT} {P : Program} (hcall : ∀ f args h v h', call f args h = some (v, h') → Grows h h') {ops : List Oper} : ∀ (l : List Oper) (sk : List Bool) (e : Env) (h : H) (x : List Rec × Env × H), lexRun call P ops l sk e h = some x → Grows h x.2.2
  | [], sk, e, h, x, hr => by
    simp only [lexRun, Option.some.injEq] at hr
    rw [← hr]
    exact Grows.refl _
  | o :: l, sk, e, h, x, hr => by
    simp only [lexRun] at hr
    cases hs : skipOf ops o sk e with
    | none => simp [hs] at hr
    | some s =>
      simp only [hs, Option.bind_some] at hr
      cases hv : (cond s (some (.undef, h)) (step call P o (ev e) h)) with
      | none => simp [hv] at hr
      | some r =>
        simp only [hv, Option.bind_some] at hr
        cases hl : lexRun call P ops l (sk ++ [s]) (put e o.dst r.1) r.2 with
        | none => simp [hl] at hr
        | some y =>
          simp only [hl, Option.bind_some, Option.some.injEq] at hr
          have h1 : Grows h r.2 := by
            cases s with
            | true =>
              simp only [cond_true, Option.some.injEq] at hv
              rw [← hv]
              exact Grows.refl _
            | false => exact grows_step hcall (v := r.1) (h' := r.2) hv
          have h2 := grows_lex hcall l _ _ _ _ hl
          rw [← hr]
          exact h1.trans h2

theorem grows_exec {call : CallT} {P : Program} (hcall : ∀ f args h v h', call f args h = some (v, h') → Grows h h') {k : Nat} : ∀ (c : Code) (e : Env) (h : H) (x : Ex) (e' : Env) (h' : H), exec call P k c e h = some (x, e', h') → Grows h h'
  | .region _ ops false, e, h, x, e', h', hr => by
    simp only [exec] at hr
    cases hs : runOps call P ops.toList ops.size none ops.toList e h with
    | none => simp [hs] at hr
    | some r =>
      simp only [hs, Option.map_some, Option.some.injEq, Prod.mk.injEq] at hr
      rw [← hr.2.2]
      exact grows_runOps hcall _ _ _ _ _ r.1 r.2 hs
  | .region _ ops true, e, h, x, e', h', hr => by
    simp only [exec] at hr
    cases hs : runAny call P ops.toList (floats P ops.toList (waits ops.toList [])) e h with
    | none => simp [hs] at hr
    | some r =>
      simp only [hs, Option.map_some, Option.some.injEq, Prod.mk.injEq] at hr
      rw [← hr.2.2]
      unfold runAny at hs
      cases hl : lexRun call P ops.toList ops.toList [] e h with
      | none => simp [hl] at hs
      | some y =>
        simp only [hl, Option.bind_some] at hs
        split at hs
        · injection hs with hs
          rw [← hs]
          exact grows_lex hcall _ _ _ _ _ hl
        · cases hs
  | .seq a b, e, h, x, e', h', hr => by
    simp only [exec] at hr
    split at hr
    · rename_i e1 h1 ha
      exact (grows_exec hcall a _ _ _ _ _ ha).trans (grows_exec hcall b _ _ _ _ _ hr)
    · exact grows_exec hcall a _ _ _ _ _ hr
  | .cond c a b, e, h, x, e', h', hr => by
    simp only [exec] at hr
    split at hr
    · rename_i t _
      cases t
      · exact grows_exec hcall b _ _ _ _ _ hr
      · exact grows_exec hcall a _ _ _ _ _ hr
    · cases hr
  | .block id b, e, h, x, e', h', hr => by
    simp only [exec] at hr
    split at hr
    · rename_i j e1 h1 hb
      split at hr
      · injection hr with hr
        injection hr with _ hr
        injection hr with _ hr
        rw [← hr]
        exact grows_exec hcall b _ _ _ _ _ hb
      · injection hr with hr
        injection hr with _ hr
        injection hr with _ hr
        rw [← hr]
        exact grows_exec hcall b _ _ _ _ _ hb
    · exact grows_exec hcall b _ _ _ _ _ hr
  | .loop b, e, h, x, e', h', hr => by
    simp only [exec] at hr
    have key : ∀ n e h, iter (exec call P k b) n e h = some (x, e', h') → Grows h h' := by
      intro n
      induction n with
      | zero => intro e h hi; simp [iter] at hi
      | succ n ih =>
        intro e h hi
        simp only [iter] at hi
        split at hi
        · rename_i e1 h1 hb
          exact (grows_exec hcall b _ _ _ _ _ hb).trans (ih _ _ hi)
        · exact grows_exec hcall b _ _ _ _ _ hi
    exact key k e h hr
  | .skip, e, h, x, e', h', hr | .exit _, e, h, x, e', h', hr | .ret, e, h, x, e', h', hr => by
    simp only [exec, Option.some.injEq, Prod.mk.injEq] at hr
    rw [← hr.2.2]
    exact Grows.refl _
  | .rangeFunc _ _ _ _, _, _, _, _, _, hr | .scope _, _, _, _, _, _, hr | .label _, _, _, _, _, _, hr | .goto _, _, _, _, _, _, hr | .refuse _, _, _, _, _, _, hr => by simp [exec] at hr

theorem grows_leave {h h0 h1 : H} {v : V} (h0b : h0.blks = h.blks) (h0e : h0.esc = []) (hg : Grows h0 h1) : Grows h (leave h h1 v) := by
  have hsz : h.size ≤ h1.size := by have := hg.1; simp only [H.size, h0b] at this ⊢; exact this
  have key : ∀ n E, n ≤ h.size → EscOk n E h → EscOk n (E ++ h.esc) h1 := fun n E hn he => by
    refine hg.2 n (E ++ h.esc) (by simpa [H.size, h0b] using hn) fun b k hb hk u hu r hr => ?_
    rw [h0e, List.append_nil]
    exact he b k hb (h0b ▸ hk) u hu r hr
  unfold leave
  split
  · refine ⟨by simp only [H.size, List.length_take] at hsz ⊢; omega, fun n E hn he b k hb hk u hu r hr => ?_⟩
    simp only [List.getElem?_take] at hk
    split at hk
    · have := key n E hn he b k hb hk u hu r hr
      simp only
      rw [← List.append_assoc, List.mem_append]
      rcases List.mem_append.1 this with h2 | h2
      · exact .inl h2
      · right
        rw [List.mem_filter]
        exact ⟨h2, by simp; omega⟩
    · cases hk
  · refine ⟨hsz, fun n E hn he b k hb hk u hu r hr => ?_⟩
    have := key n E hn he b k hb hk u hu r hr
    simp only
    rwa [← List.append_assoc]

theorem grows_call {P : Program} : ∀ k f args h v h', callF P k f args h = some (v, h') → Grows h h'
  | 0, _, _, _, _, _, hr => by simp [callF] at hr
  | k + 1, f, args, h, v, h', hr => by
    simp only [callF] at hr
    split at hr
    · rename_i fn hf
      split at hr
      · split at hr
        · rename_i c hc
          cases he : exec (callF P k) P k c (enter fn args) { blks := h.blks, esc := [] } with
          | none => simp [he, finish] at hr
          | some x =>
            obtain ⟨x, e', h1⟩ := x
            rw [he] at hr
            have hg := grows_exec (grows_call k) c _ _ _ _ _ he
            cases x with
            | exit id => simp [finish] at hr
            | normal =>
              simp only [finish] at hr
              cases hres : resultsOf P e' h1 fn.results.toList with
              | none => simp [hres] at hr
              | some vs =>
                simp only [hres, Option.map_some, Option.some.injEq, Prod.mk.injEq] at hr
                rw [← hr.2]
                exact grows_leave (h0 := { blks := h.blks, esc := [] }) rfl rfl hg
            | ret =>
              simp only [finish] at hr
              cases hres : resultsOf P e' h1 fn.results.toList with
              | none => simp [hres] at hr
              | some vs =>
                simp only [hres, Option.map_some, Option.some.injEq, Prod.mk.injEq] at hr
                rw [← hr.2]
                exact grows_leave (h0 := { blks := h.blks, esc := [] }) rfl rfl hg
        · cases hr
      · cases hr
    · cases hr

end Go.Hl
