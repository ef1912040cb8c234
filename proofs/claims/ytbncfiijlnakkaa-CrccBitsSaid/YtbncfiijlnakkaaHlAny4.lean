import Derived.Test.YtbncfiijlnakkaaHlAny3
/-! Hl: operations whose order is open (4). -/
namespace Go.Hl
open Go.RowKit

section
variable {call : CallT} {P : Program} {ops : Array Oper} {e eN : Env} {h hN : H} {rs : List Rec} {base : Nat}

/-- Operands and a guard's temporary are all that an operation looks at. -/
noncomputable def lookAt (ops : List Oper) (o : Oper) (E : Env) : Operand → V := fun x =>
  match x with
  | .tmp t => @ite V (t ∈ looks ops o) (Classical.propDecidable _) (E.getD t .undef) .undef
  | x => ev E x

theorem lookAt_eq (ops : List Oper) (o : Oper) (E : Env) : ∀ x ∈ o.op.operands, lookAt ops o E x = ev E x := by
  intro x hx
  cases x with
  | tmp t =>
    have : t ∈ looks ops o := List.mem_append_left _ (List.mem_filterMap.2 ⟨.tmp t, by simpa using hx, rfl⟩)
    simp only [lookAt, ev, if_pos this]
  | _ => rfl

theorem anyOp (hcall : CallsOk call P) {Q : Exit → Act → World → Prop} (L : Lex call P ops e h rs eN hN) (A : AnyOk P ops) {ι0 : Map} {a0 : Act} {w0 : World} {listed : Array Bool} {a : Act} {w : World} {ι : Map} {m i : Nat} {K : Act → World → Prop}
    (I : Inv P ops e rs hN base ι0 h a0 w0 listed a w ι m) (hi : i ∈ Region.ready .any ops listed)
    (hK : ∀ a' w' ι' m', Inv P ops e rs hN base ι0 h a0 w0 (listed.setIfInBounds i true) a' w' ι' m' → K a' w') : wpOp P ops Q i K a w := by
  obtain ⟨hun, o, ho, hall⟩ := mem_ready.1 hi
  have hil : i < ops.size := (Array.getElem?_eq_some_iff.1 ho).1
  have hni : ¬ Listed listed i := fun hl => by
    unfold Listed at hl
    have hlt : i < listed.size := by rw [I.size]; exact hil
    simp [hlt] at hl hun
    rw [hl] at hun
    cases hun
  have hbits := bits_listed A.back I.closed i o ho hall
  have hlb : ∀ (j : Nat) (p : Oper) (k : Nat), ops[j]? = some p → Listed listed j → bit (waits ops.toList []) j k = true → Listed listed k := fun j p k hp hj =>
    bits_listed A.back I.closed j p hp (I.closed j p hj hp) k
  obtain ⟨hsk, henv, hs1, hs2⟩ := L.step i o ho
  have hlook := fun t ht => I.look L A hni hbits hlb ho (t := t) ht
  have hρ : ∀ x, RelV ι (hAt rs hN m) (lookAt ops.toList o (eAt rs eN i) x) (a.eval x) := by
    intro x
    cases x with
    | tmp t =>
      simp only [lookAt]
      split
      · rename_i ht
        exact hlook t ht
      · exact RelV.undef _
    | const v => exact ofVal_rel v
    | global g => exact RelV.undef _
    | func f =>
      simp only [lookAt, ev, Act.eval, RelV]
      exact ⟨#[], #[], rfl, by simp [RelVs], by simp [RelVs]⟩
  -- the guard
  have hwant : Region.wanted o (yielded ops a.tmps) = !sAt rs i := by
    unfold Region.wanted
    unfold skipOf at hsk
    cases hg : o.guard with
    | none =>
      rw [hg] at hsk
      simp only [Option.some.injEq] at hsk
      rw [← hsk]
      rfl
    | some qw =>
      obtain ⟨q, wn⟩ := qw
      obtain ⟨hqi, hqb, c, hc⟩ := A.guard i o q wn ho hg
      rw [hg] at hsk
      simp only at hsk
      rw [hc] at hsk
      simp only at hsk
      have hqS : Listed listed q := hbits q hqb
      have hql : q < ops.size := by omega
      have hoq : ops[q]? = some ops[q] := Array.getElem?_eq_getElem hql
      have hdq : ops[q].dst = some c := by
        unfold dstOf at hc
        rw [Array.getElem?_toList, hoq] at hc
        simpa using hc
      have hsq : ((rs.take i).map (·.s)).getD q false = sAt rs q := by
        have hq : q < rs.length := by rw [L.len]; omega
        simp [List.getD, sAt, List.getElem?_take, hqi, hq]
      rw [hsq] at hsk
      have hy : yielded ops a.tmps q = match a.tmps[c]? with
          | some (.bool b) => some b
          | _ => none := by
        unfold yielded
        rw [hoq]
        simp only [Option.bind_some, hdq]
        cases a.tmps[c]? with
        | none => rfl
        | some v => cases v <;> rfl
      have hcl : c ∈ looks ops.toList o := List.mem_append_right _ (by rw [hg]; simp [hc])
      simp only
      rw [hy]
      cases hsqv : sAt rs q with
      | true =>
        rw [hsqv, if_pos rfl] at hsk
        injection hsk with hsk
        rw [← hsk]
        have hnb : ∀ b, a.tmps[c]? ≠ some (.bool b) := by
          intro b hb
          have hclt : c < a.tmps.size := (Array.getElem?_eq_some_iff.1 hb).1
          have := I.skips q _ c hoq hdq hqS hsqv (by rw [I.len]; exact hclt)
          rw [Array.getD_eq_getD_getElem?, hb] at this
          simp [Go.undef] at this
        cases hx : a.tmps[c]? with
        | none => simp
        | some v =>
          cases v with
          | bool b => exact absurd hx (hnb b)
          | _ => simp
      | false =>
        rw [hsqv] at hsk
        simp only [Bool.false_eq_true, if_false] at hsk
        have hr := hlook c hcl
        split at hsk
        · rename_i b hb
          injection hsk with hsk
          rw [hb] at hr
          simp only [RelV] at hr
          have hclt : c < a.tmps.size := by
            rcases Nat.lt_or_ge c a.tmps.size with h1 | h1
            · exact h1
            · rw [Array.getD_eq_getD_getElem?, Array.getElem?_eq_none h1] at hr
              simp [Go.undef] at hr
          rw [Array.getD_eq_getD_getElem?, Array.getElem?_eq_getElem hclt] at hr
          simp only [Option.getD_some] at hr
          rw [Array.getElem?_eq_getElem hclt, hr, ← hsk]
          cases b <;> cases wn <;> rfl
        · cases hsk
  unfold wpOp
  simp only [ho]
  rw [hwant]
  have hcutN : ∀ m', (¬ (isAct P o = true ∧ sAt rs i = false)) → m' = m → m' ≤ ops.size ∧ ∀ (k : Nat) (p : Oper), ops[k]? = some p → isAct P p = true → sAt rs k = false → ((k = i ∨ Listed listed k) ↔ k < m') := fun m' hna hm' => by
    subst hm'
    refine ⟨I.cut.1, fun k p hp hact hks => ?_⟩
    rw [← I.cut.2 k p hp hact hks]
    constructor
    · rintro (rfl | hl)
      · rw [ho] at hp
        injection hp with hp
        subst hp
        exact absurd ⟨hact, hks⟩ hna
      · exact hl
    · exact .inr
  cases hsv : sAt rs i with
  | true =>
    simp only [Bool.not_true, Bool.false_eq_true, if_false]
    obtain ⟨hv, -⟩ := hs1 hsv
    exact hK _ w ι m (I.next L A hi ho (hcutN m (fun hx => by rw [hsv] at hx; cases hx.2) rfl) (by rw [hv]; exact RelV.undef _) (fun _ => rfl) I.rel (Agree.refl _ _) (Below.refl _ _))
  | false =>
    simp only [Bool.not_false, if_true]
    left
    have hst := hs2 hsv
    have hnsk : sAt rs i = true → ∀ v' : Value, v' = Go.undef := fun hx => by rw [hsv] at hx; cases hx
    have hst0 := hst
    unfold Hl.step at hst
    unfold Oper.wp
    split at hst
    · rename_i hk
      have hna : ¬ (isAct P o = true ∧ sAt rs i = false) := fun hx => by unfold isAct at hx; rw [hk] at hx; cases hx.1
      cases hp : pureOp P o (ev (eAt rs eN i)) with
      | none => simp [hp] at hst
      | some u =>
        simp only [hp, Option.map_some, Option.some.injEq, Prod.mk.injEq] at hst
        rw [← pureOp_congr (lookAt_eq ops.toList o _)] at hp
        obtain ⟨v', h1, h2⟩ := sim_pure (w := w) hp hρ
        rw [h1]
        rw [hst.1] at h2
        exact hK _ w ι m (I.next L A hi ho (hcutN m hna rfl) h2 (fun hx => hnsk hx v') I.rel (Agree.refl _ _) (Below.refl _ _))
    · rename_i hk
      have hna : ¬ (isAct P o = true ∧ sAt rs i = false) := fun hx => by unfold isAct at hx; rw [hk] at hx; cases hx.1
      cases hp : readOp P o.op (ev (eAt rs eN i)) (hAt rs hN i) with
      | none => simp [hp] at hst
      | some u =>
        simp only [hp, Option.map_some, Option.some.injEq, Prod.mk.injEq] at hst
        rw [hst.1] at hp
        have hp' := I.reads L hni hbits hlb ho (by unfold isRead; rw [hk]) hsv hp
        rw [← readOp_congr (lookAt_eq ops.toList o _)] at hp'
        obtain ⟨v', h1, h2⟩ := sim_read hp' I.rel hρ
        rw [h1]
        exact hK _ w ι m (I.next L A hi ho (hcutN m hna rfl) h2 (fun hx => hnsk hx v') I.rel (Agree.refl _ _) (Below.refl _ _))
    all_goals try (cases hst; done)
    all_goals
      rename_i hk
      have hact : isAct P o = true := by unfold isAct; rw [hk]
      have hmi : m ≤ i := by
        rcases Nat.lt_or_ge i m with h1 | h1
        · exact absurd ((I.cut.2 i o ho hact hsv).2 h1) hni
        · exact h1
      have hsame : hAt rs hN i = hAt rs hN m := L.same i hmi (by omega) fun k p hk1 hk2 hp hx => by
        have := (I.cut.2 k p hp hx.1 hx.2).1 (hbits k (A.chain i k o p ho hp hact hx.1 hk2))
        omega
      have hcut' : i + 1 ≤ ops.size ∧ ∀ (k : Nat) (p : Oper), ops[k]? = some p → isAct P p = true → sAt rs k = false → ((k = i ∨ Listed listed k) ↔ k < i + 1) := by
        refine ⟨by omega, fun k p hp hx1 hx2 => ⟨?_, fun hki => ?_⟩⟩
        · rintro (rfl | hl)
          · omega
          · have := (I.cut.2 k p hp hx1 hx2).1 hl
            omega
        · by_cases h1 : k = i
          · exact .inl h1
          · exact .inr (hbits k (A.chain i k o p ho hp hact hx1 (by omega)))
      rw [hsame] at hst hst0
    · rw [← actOp_congr (lookAt_eq ops.toList o _)] at hst
      obtain ⟨v', w', ι', h1, h2, h3, h4, h5⟩ := sim_act hst I.rel hρ
      rcases h1 with h1 | ⟨h1, rfl⟩
      · rw [h1]
        exact hK _ w' ι' (i + 1) (I.next L A hi ho hcut' h2 (fun hx => hnsk hx v') h3 h4 h5)
      · rw [h1]
        exact hK _ w' ι' (i + 1) (I.next L A hi ho hcut' h2 (fun hx => rfl) h3 h4 h5)
    · rw [← callOp_congr (lookAt_eq ops.toList o _)] at hst
      unfold callOp at hst
      split at hst
      · rename_i f args argTypes hoo
        split at hst
        · rename_i g first caps hf
          obtain ⟨⟨fn, hfn, hname, hbody⟩, hc⟩ := hcall _ _ _ _ _ hst
          have hfv := hρ f
          rw [hf] at hfv
          simp only [RelV] at hfv
          obtain ⟨first', caps', hfv, r1, r2⟩ := hfv
          have hargs : RelVs ι (hAt rs hN m) (first ++ args.toList.map (lookAt ops.toList o (eAt rs eN i)) ++ caps) (first'.toList ++ args.toList.map a.eval ++ caps'.toList) := (r1.append (map_rel hρ _)).append r2
          have hrun : (execOp a.eval o).run P w = .ok (.enter g (first' ++ args.map a.eval ++ caps')) w := by
            unfold execOp resolve
            simp only [hoo, Sem.run_bind, hfv, Deferred.ofValue, Sem.run_pure, Result.andThen_ok, invoke, callFunc, run_program, hfn, hname, Bool.false_eq_true, if_false, hbody]
          rw [hrun, Oper.upon_enter]
          have := hc ι base w _ hargs I.rel
          rw [show (first'.toList ++ args.toList.map a.eval ++ caps'.toList).toArray = first' ++ args.map a.eval ++ caps' by apply Array.ext'; simp] at this
          refine this.mono fun en w' hen => ?_
          obtain ⟨v', ι', rfl, h2, h3, h4, h5⟩ := hen
          exact hK _ w' ι' (i + 1) (I.next L A hi ho hcut' h2 (fun hx => hnsk hx v') h3 h4 h5)
        · cases hst
      · cases hst

/-- Whatever order is drawn. -/
theorem any_wp (hcall : CallsOk call P) {Q : Exit → Act → World → Prop} (L : Lex call P ops e h rs eN hN) (A : AnyOk P ops) {ι0 : Map} {a0 : Act} {w0 : World}
    (hK : ∀ a' w' ι', EnvRel ι' hN eN a'.tmps → Rel ι' base hN w' → Agree ι0 h ι' hN → Below base w0 w' → a'.defers = a0.defers → Q .normal a' w') :
    ∀ (fuel : Nat) (U : List Nat) (listed : Array Bool) (a : Act) (w : World) (ι : Map) (m : Nat), U.length = fuel → (∀ i, i < ops.size → ¬ Listed listed i → i ∈ U) → Inv P ops e rs hN base ι0 h a0 w0 listed a w ι m →
      wpAny P .any ops Q fuel listed a w := by
  -- all have come up
  have fin : ∀ (listed : Array Bool) (a : Act) (w : World) (ι : Map) (m : Nat), (∀ i, i < ops.size → Listed listed i) → Inv P ops e rs hN base ι0 h a0 w0 listed a w ι m → Q .normal a w := by
    intro listed a w ι m hall I
    have hend : hAt rs hN m = hN := by
      have h1 : hAt rs hN ops.size = hN := by
        unfold hAt
        rw [List.getElem?_eq_none (by rw [L.len]; exact Nat.le_refl _)]
      exact (L.same ops.size I.cut.1 (Nat.le_refl _) fun k p hk1 hk2 hp hx => by
        have := (I.cut.2 k p hp hx.1 hx.2).1 (hall k hk2)
        omega).symm.trans h1
    have hee : eAt rs eN ops.size = eN := by
      unfold eAt
      rw [List.getElem?_eq_none (by rw [L.len]; exact Nat.le_refl _)]
    obtain ⟨hlen, henv⟩ := L.env A ops.size (Nat.le_refl _)
    rw [hee] at hlen henv
    have hr := I.rel
    have ha := I.agree
    rw [hend] at hr ha
    refine hK a w ι ⟨by rw [hlen]; exact I.len, fun t => ?_⟩ hr ha I.below I.defers
    by_cases hte : t < e.length
    · obtain ⟨k1, k2⟩ := henv t hte
      by_cases hw : ∃ (j : Nat) (p : Oper), ops[j]? = some p ∧ p.dst = some t
      · obtain ⟨j, p, hp, hd⟩ := hw
        have hj := (Array.getElem?_eq_some_iff.1 hp).1
        rw [k1 j p hj hp hd]
        have := I.done t j p hte hp hd (hall j hj)
        rwa [hend] at this
      · rw [k2 fun j p _ hp hd => hw ⟨j, p, hp, hd⟩]
        have := I.left t hte fun j p hp hd => absurd ⟨j, p, hp, hd⟩ hw
        rwa [hend] at this
    · have : eN.getD t .undef = .undef := by
        rw [List.getD_eq_getElem?_getD, List.getElem?_eq_none (by rw [hlen]; exact Nat.le_of_not_lt hte)]
        rfl
      rw [this]
      exact RelV.undef _
  -- if none is ready, all have come up
  have done : ∀ (listed : Array Bool) (a : Act) (w : World) (ι : Map) (m : Nat), Inv P ops e rs hN base ι0 h a0 w0 listed a w ι m → Region.ready .any ops listed = [] → ∀ i, i < ops.size → Listed listed i := by
    intro listed a w ι m I hr i
    induction i using Nat.strongRecOn with
    | _ i ih =>
      intro hi
      rcases Classical.em (Listed listed i) with h1 | h1
      · exact h1
      · exfalso
        have hlt : i < listed.size := by rw [I.size]; exact hi
        have : i ∈ Region.ready .any ops listed := by
          rw [mem_ready]
          refine ⟨?_, ops[i], Array.getElem?_eq_getElem hi, fun x hx hb => ?_⟩
          · unfold Listed at h1
            simp [hlt] at h1 ⊢
            exact h1
          · have hb' := A.back i _ (Array.getElem?_eq_getElem hi) x hx hb
            exact ih x.on hb' (by omega)
        rw [hr] at this
        cases this
  intro fuel
  induction fuel with
  | zero =>
    intro U listed a w ι m hU hin I
    have hnil : U = [] := List.eq_nil_of_length_eq_zero hU
    subst hnil
    have hall : ∀ i, i < ops.size → Listed listed i := fun i hi => by
      rcases Classical.em (Listed listed i) with h1 | h1
      · exact h1
      · exact absurd (hin i hi h1) (by simp)
    refine ⟨?_, fin listed a w ι m hall I⟩
    rcases hr : Region.ready .any ops listed with _ | ⟨i, l⟩
    · rfl
    · exfalso
      have hmem : i ∈ Region.ready .any ops listed := by rw [hr]; simp
      obtain ⟨hun, o, ho, -⟩ := mem_ready.1 hmem
      have hil := (Array.getElem?_eq_some_iff.1 ho).1
      have h1 := hall i hil
      unfold Listed at h1
      have hlt : i < listed.size := by rw [I.size]; exact hil
      simp [hlt] at h1 hun
      rw [h1] at hun
      cases hun
  | succ fuel ih =>
    intro U listed a w ι m hU hin I
    refine ⟨fun hr => fin listed a w ι m (done listed a w ι m I hr) I, fun i hi => ?_⟩
    refine anyOp hcall L A I hi fun a' w' ι' m' I' => ?_
    obtain ⟨hun, o, ho, -⟩ := mem_ready.1 hi
    have hil := (Array.getElem?_eq_some_iff.1 ho).1
    have hlt : i < listed.size := by rw [I.size]; exact hil
    have hiU : i ∈ U := hin i hil (fun h1 => by
      unfold Listed at h1
      simp [hlt] at h1 hun
      rw [h1] at hun
      cases hun)
    refine ih (U.erase i) _ a' w' ι' m' (by rw [List.length_erase_of_mem hiU]; omega) (fun j hj hnj => ?_) I'
    rw [listed_set hlt] at hnj
    have hji : j ≠ i := fun hx => hnj (.inl hx)
    exact (List.mem_erase_of_ne hji).2 (hin j hj (fun hx => hnj (.inr hx)))

theorem runAny_wp (hcall : CallsOk call P) (hmix : P.follows .mixedOrders = true) {Q : Exit → Act → World → Prop} {id : Nat} {r : Env × H} {ι : Map} {a : Act} {w : World}
    (hr : runAny call P ops.toList (floats P ops.toList (waits ops.toList [])) e h = some r) (hok : anyOk P ops.toList (waits ops.toList []) = true) (he : EnvRel ι h e a.tmps) (hrel : Rel ι base h w)
    (hK : ∀ a' w' ι', EnvRel ι' r.2 r.1 a'.tmps → Rel ι' base r.2 w' → Agree ι h ι' r.2 → Below base w w' → a'.defers = a.defers → Q .normal a' w') : (Code.region id ops true).wp P Q a w := by
  obtain ⟨rs, L⟩ := lex_of hr
  refine wp_region_any hmix ?_
  have hnone : ∀ i, ¬ Listed (Array.replicate ops.size false) i := fun i hi => by
    unfold Listed at hi
    by_cases hlt : i < ops.size <;> simp [hlt] at hi
  refine any_wp hcall L (anyOk_ok hok) (ι0 := ι) (a0 := a) (w0 := w) hK ops.size (List.range ops.size) _ a _ ι 0 (by simp) (fun i hi _ => List.mem_range.2 hi) ?_
  refine ⟨by simp, fun i o hi => absurd hi (hnone i), ⟨Nat.zero_le _, fun k o _ _ _ => ⟨fun hx => absurd hx (hnone k), fun hx => by omega⟩⟩, he.1, fun t j o _ _ _ hj => absurd hj (hnone j), fun t ht _ => ?_, fun j o d _ _ hj => absurd hj (hnone j), ?_, ?_, ?_, rfl⟩
  · rw [L.h0]
    exact he.2 t
  · rw [L.h0]
    exact hrel.heap rfl
  · rw [L.h0]
    exact Agree.refl _ _
  · exact (Below.refl base w).drew
end

end Go.Hl
