import Derived.Test.YtbncfiijlnakkaaHlStep
/-! Hl: operations in the order of the text. -/
namespace Go.Hl
open Go.RowKit

section
variable {P : Program} {ι : Map} {base : Nat} {h : H} {w : World}

theorem put_other (a : Act) (d : Option Tmp) (v : Value) (c : Tmp) (hd : d ≠ some c) : (a.put d v).tmps[c]? = a.tmps[c]? := by
  cases d with
  | none => rfl
  | some d =>
    have : d ≠ c := fun h => hd (by rw [h])
    simp [Act.put, Array.getElem?_setIfInBounds_ne this]
theorem put_defers (a : Act) (d : Option Tmp) (v : Value) : (a.put d v).defers = a.defers := by cases d <;> rfl
theorem put_undef (a : Act) (d : Tmp) : ∀ b, (a.put (some d) Go.undef).tmps[d]? ≠ some (.bool b) := by
  intro b
  simp only [Act.put, Array.getElem?_setIfInBounds_self]
  split
  · simp [Go.undef]
  · simp

/-- Under this guard (if any) things go on. -/
def Ctx (ops : Array Oper) (ctx : Option (Nat × Bool)) (a : Act) : Prop := ∀ q w, ctx = some (q, w) → ∃ c, dstOf ops.toList q = some c ∧ a.tmps[c]? = some (.bool w)

theorem Ctx.wanted {ops : Array Oper} {ctx : Option (Nat × Bool)} {a : Act} (hc : Ctx ops ctx a) {o : Oper} (ho : o.guard = ctx) : Region.wanted o (yielded ops a.tmps) = true := by
  unfold Region.wanted
  rw [ho]
  cases ctx with
  | none => rfl
  | some qw =>
    obtain ⟨q, w⟩ := qw
    obtain ⟨c, h1, h2⟩ := hc q w rfl
    unfold dstOf at h1
    rw [Array.getElem?_toList] at h1
    simp [yielded, h1, h2]

/-- A group whose guard says no. -/
theorem skip_group {ops : Array Oper} {Q : Exit → Act → World → Prop} {q : Nat} {wn : Bool} {c : Tmp} {i : Nat} (hq : dstOf ops.toList q = some c) : ∀ (g rest : List Oper) (j : Nat) (a : Act) (w : World),
    (∀ m, m < g.length → ops[j + m]? = g[m]?) → grpOk q wn c i j g = true → (∃ b, a.tmps[c]? = some (.bool b) ∧ b ≠ wn) → (∀ m, i ≤ m → m < j → ∀ b, yielded ops a.tmps m ≠ some b) →
    (∀ a', (∀ d, (∀ o ∈ g, o.dst ≠ some d) → a'.tmps[d]? = a.tmps[d]?) → a'.tmps.size = a.tmps.size → a'.defers = a.defers → (∀ t, a'.tmps.getD t Go.undef = a.tmps.getD t Go.undef ∨ ∃ o ∈ g, o.dst = some t) → wpList P ops Q rest a' w) →
    wpList P ops Q (g ++ rest) a w
  | [], rest, j, a, w, _, _, _, _, hK => hK a (fun _ _ => rfl) rfl rfl (fun _ => .inl rfl)
  | o :: g, rest, j, a, w, hl, hg, hb, hy, hK => by
    simp only [grpOk, Bool.and_eq_true, bne_iff_ne, ne_eq] at hg
    obtain ⟨⟨h1, h2⟩, h3⟩ := hg
    have hnw : Region.wanted o (yielded ops a.tmps) = false := by
      unfold Region.wanted
      split at h2
      · rename_i q' w' hgd
        rw [hgd]
        simp only [Bool.or_eq_true, Bool.and_eq_true, beq_iff_eq, decide_eq_true_eq] at h2
        rcases h2 with ⟨rfl, rfl⟩ | ⟨h4, h5⟩
        · obtain ⟨b, hb1, hb2⟩ := hb
          unfold dstOf at hq
          rw [Array.getElem?_toList] at hq
          simp only [yielded, hq, Option.bind_some, hb1]
          simpa using hb2
        · have := hy q' h4 h5 w'
          simpa using this
      · cases h2
    rw [List.cons_append]
    unfold wpList
    rw [if_neg (by rw [hnw]; simp)]
    have hoj : ops[j]? = some o := by have := hl 0 (by simp); simpa using this
    refine skip_group hq g rest (j + 1) _ w (fun m hm => by have := hl (m + 1) (by simp; omega); rw [show j + 1 + m = j + (m + 1) by omega, this]; simp) h3 ?_ ?_ ?_
    · obtain ⟨b, hb1, hb2⟩ := hb
      exact ⟨b, by rw [put_other _ _ _ _ h1]; exact hb1, hb2⟩
    · intro m hm1 hm2 b hyb
      by_cases hmj : m = j
      · subst hmj
        unfold yielded at hyb
        rw [hoj] at hyb
        cases hd : o.dst with
        | none => simp [hd] at hyb
        | some d =>
          simp only [Option.bind_some, hd] at hyb
          split at hyb
          · rename_i b' hb'
            exact put_undef a d b' hb'
          · cases hyb
      · apply hy m hm1 (by omega) b
        unfold yielded at hyb ⊢
        cases hd : (ops[m]?).bind (·.dst) with
        | none => simp [hd] at hyb
        | some d =>
          simp only [hd, Option.bind_some] at hyb ⊢
          by_cases hdo : o.dst = some d
          · rw [hdo] at hyb
            split at hyb
            · rename_i b' hb'
              exact absurd hb' (put_undef a d b')
            · cases hyb
          · rw [put_other _ _ _ _ hdo] at hyb
            exact hyb
    · intro a' k1 k2 k3 k4
      refine hK a' (fun d hd => ?_) (by rw [k2]; cases o.dst <;> simp [Act.put]) (by rw [k3, put_defers]) (fun t => ?_)
      · rw [k1 d (fun o' ho' => hd o' (by simp [ho'])), put_other _ _ _ _ (hd o (by simp))]
      · rcases k4 t with k4 | ⟨o', ho', k4⟩
        · by_cases hdt : o.dst = some t
          · exact .inr ⟨o, by simp, hdt⟩
          · left
            rw [k4, Array.getD_eq_getD_getElem?, put_other _ _ _ _ hdt, ← Array.getD_eq_getD_getElem?]
        · exact .inr ⟨o', by simp [ho'], k4⟩

theorem forget_length : ∀ (g : List Oper) (e : Env), (forget g e).length = e.length
  | [], _ => rfl
  | o :: g, e => by
    simp only [forget]
    rw [forget_length g]
    cases o.dst <;> simp [Hl.put]
theorem forget_get : ∀ (g : List Oper) (e : Env) (t : Nat), (forget g e).getD t .undef = e.getD t .undef ∨ (forget g e).getD t .undef = .undef
  | [], _, _ => .inl rfl
  | o :: g, e, t => by
    simp only [forget]
    rcases forget_get g (Hl.put e o.dst .undef) t with h1 | h1
    · rw [h1]
      cases hd : o.dst with
      | none => exact .inl rfl
      | some d =>
        simp only [Hl.put]
        by_cases hdt : d = t
        · subst hdt
          right
          by_cases hlt : d < e.length <;> simp [List.getD, hlt]
        · left
          simp [List.getD, List.getElem?_set_ne hdt]
    · exact .inr h1
theorem forget_hit : ∀ (g : List Oper) (e : Env) (t : Nat), (∃ o ∈ g, o.dst = some t) → (forget g e).getD t .undef = .undef
  | [], _, _, h => by obtain ⟨o, ho, _⟩ := h; simp at ho
  | o :: g, e, t, h => by
    simp only [forget]
    by_cases hg : ∃ o ∈ g, o.dst = some t
    · exact forget_hit g _ t hg
    · obtain ⟨o', ho', hd⟩ := h
      rcases List.mem_cons.1 ho' with rfl | ho'
      · rcases forget_get g (Hl.put e o'.dst .undef) t with h1 | h1
        · rw [h1, hd]
          simp only [Hl.put]
          by_cases hlt : t < e.length <;> simp [List.getD, hlt]
        · exact h1
      · exact absurd ⟨o', ho', hd⟩ hg

/-- What was forgotten is related to anything. -/
theorem EnvRel.forget {e : Env} {tm tm' : Array Value} (hr : EnvRel ι h e tm) (g : List Oper) (hsz : tm'.size = tm.size) (hk : ∀ t, tm'.getD t Go.undef = tm.getD t Go.undef ∨ ∃ o ∈ g, o.dst = some t) : EnvRel ι h (Hl.forget g e) tm' := by
  refine ⟨by rw [forget_length, hsz]; exact hr.1, fun t => ?_⟩
  rcases hk t with h1 | h1
  · rcases forget_get g e t with h2 | h2
    · rw [h1, h2]
      exact hr.2 t
    · rw [h2]
      exact RelV.undef _
  · rw [forget_hit g e t h1]
    exact RelV.undef _

theorem ahead_spec (c : Tmp) : ∀ (l : List Oper) (p : Oper) (r : List Oper), l.drop (ahead c l) = p :: r → ∃ x y, p.op = .pick (.tmp c) x y
  | [], p, r, h => by simp at h
  | o :: l, p, r, h => by
    unfold ahead at h
    split at h
    · rename_i d x y ho
      split at h
      · rename_i hd
        simp only [List.drop_zero, List.cons.injEq] at h
        obtain ⟨rfl, _⟩ := h
        exact ⟨x, y, by rw [ho, hd]⟩
      · exact ahead_spec c l p r (by simpa using h)
    · exact ahead_spec c l p r (by simpa using h)

theorem grpOk_dst {q : Nat} {w : Bool} {c : Tmp} {i : Nat} : ∀ {g : List Oper} {j : Nat}, grpOk q w c i j g = true → ∀ o ∈ g, o.dst ≠ some c
  | [], _, _, o, ho => by simp at ho
  | o' :: g, j, hg, o, ho => by
    simp only [grpOk, Bool.and_eq_true, bne_iff_ne, ne_eq] at hg
    rcases List.mem_cons.1 ho with rfl | ho
    · exact hg.1.1
    · exact grpOk_dst hg.2 o ho

/-- What stands behind a run of operations. -/
def Behind (P : Program) (ops : Array Oper) (Q : Exit → Act → World → Prop) (ι : Map) (base : Nat) (h h' : H) (e' : Env) (a : Act) (w : World) (l rest : List Oper) : Prop :=
  ∀ a' w' ι', EnvRel ι' h' e' a'.tmps → Rel ι' base h' w' → Agree ι h ι' h' → Below base w w' → a'.defers = a.defers → (∀ d, (∀ o ∈ l, o.dst ≠ some d) → a'.tmps[d]? = a.tmps[d]?) → a'.tmps.size = a.tmps.size → wpList P ops Q rest a' w'

theorem put_size (a : Act) (d : Option Tmp) (v : Value) : (a.put d v).tmps.size = a.tmps.size := by cases d <;> simp [Act.put]

theorem runOps_wp {call : CallT} (hcall : CallsOk call P) {ops : Array Oper} {Q : Exit → Act → World → Prop} : ∀ (n : Nat) (ctx : Option (Nat × Bool)) (i : Nat) (l rest : List Oper) (ι : Map) (e : Env) (h : H) (e' : Env) (h' : H) (a : Act) (w : World),
    runOps call P ops.toList n ctx l e h = some (e', h') → grpsOk ops.toList n ctx i l = true → (∀ m, m < l.length → ops[i + m]? = l[m]?) → Ctx ops ctx a → (∀ q w c, ctx = some (q, w) → dstOf ops.toList q = some c → ∀ o ∈ l, o.dst ≠ some c) →
    EnvRel ι h e a.tmps → Rel ι base h w → Behind P ops Q ι base h h' e' a w l rest → wpList P ops Q (l ++ rest) a w
  | n, ctx, i, [], rest, ι, e, h, e', h', a, w, hrun, _, _, _, _, he, hr, hK => by
    have : some (e, h) = some (e', h') := by
      cases n <;> simpa [runOps] using hrun
    injection this with this
    injection this with h1 h2
    subst h1 h2
    exact hK a w ι he hr (Agree.refl _ _) (Below.refl _ _) rfl (fun _ _ => rfl) rfl
  | 0, _, _, _ :: _, _, _, _, _, _, _, _, _, hrun, _, _, _, _, _, _, _ => by simp [runOps] at hrun
  | n + 1, ctx, i, o :: l, rest, ι, e, h, e', h', a, w, hrun, hgr, hl, hctx, hdst, he, hr, hK => by
    unfold runOps at hrun
    unfold grpsOk at hgr
    have hoi : ops[i]? = some o := by have := hl 0 (by simp); simpa using this
    by_cases hg : o.guard = ctx
    · rw [if_pos hg] at hrun hgr
      cases hs : Hl.step call P o (ev e) h with
      | none => simp [hs] at hrun
      | some r =>
        obtain ⟨v, h1⟩ := r
        simp only [hs, Option.bind_some] at hrun
        rw [List.cons_append]
        unfold wpList
        rw [if_pos (hctx.wanted hg)]
        left
        refine step_wp hcall hs he hr fun v' w' ι' hv hr' hag hb => ?_
        refine runOps_wp hcall n ctx (i + 1) l rest ι' _ h1 e' h' _ w' hrun hgr (fun m hm => by have := hl (m + 1) (by simp; omega); rw [show i + 1 + m = i + (m + 1) by omega, this]; simp) ?_ (fun q w c hc hd o' ho' => hdst q w c hc hd o' (by simp [ho'])) ((he.step hag).put o.dst hv) hr' ?_
        · intro q wn hc
          obtain ⟨c, h2, h3⟩ := hctx q wn hc
          exact ⟨c, h2, by rw [put_other _ _ _ _ (hdst q wn c hc h2 o (by simp))]; exact h3⟩
        · intro a' w'' ι'' k1 k2 k3 k4 k5 k6 k7
          refine hK a' w'' ι'' k1 k2 (hag.trans k3) (hb.trans k4) (by rw [k5, put_defers]) (fun d hd => ?_) (by rw [k7, put_size])
          rw [k6 d (fun o' ho' => hd o' (by simp [ho'])), put_other _ _ _ _ (hd o (by simp))]
    · rw [if_neg hg] at hrun hgr
      cases hgd : o.guard with
      | none => simp [hgd] at hrun
      | some qw =>
        obtain ⟨q, wn⟩ := qw
        simp only [hgd] at hrun hgr
        cases hq : dstOf ops.toList q with
        | none => simp [hq] at hrun
        | some c =>
          simp only [hq] at hrun hgr
          cases hb : e.getD c .undef with
          | bool b =>
            rw [hb] at hrun
            simp only at hrun
            generalize hk : ahead c (o :: l) = k at *
            cases hdr : (o :: l).drop k with
            | nil => simp [hdr] at hrun
            | cons pk rest' =>
              obtain ⟨x, y, hpk⟩ := ahead_spec c (o :: l) pk rest' (by rw [hk]; exact hdr)
              obtain ⟨pdst, pop, ptype, ppos, pafter, pguard⟩ := pk
              simp only at hpk
              subst hpk
              simp only [hdr, Bool.and_eq_true, decide_eq_true_eq] at hrun hgr
              obtain ⟨⟨⟨g1, g2⟩, g3⟩, g4⟩ := hgr
              generalize hgrp : (o :: l).take k = g at *
              have hsplit : o :: l = g ++ { dst := pdst, op := .pick (.tmp c) x y, type := ptype, pos := ppos, after := pafter, guard := pguard } :: rest' := by
                rw [← hgrp, ← hdr, List.take_append_drop]
              generalize hpk : ({ dst := pdst, op := .pick (.tmp c) x y, type := ptype, pos := ppos, after := pafter, guard := pguard } : Oper) = pk at *
              have hpop : pk.op = .pick (.tmp c) x y := by rw [← hpk]
              have hpdst : pk.dst = pdst := by rw [← hpk]
              have hpg : pk.guard = ctx := by rw [← hpk]; exact g1
              have hklen : g.length = k := by
                rw [← hgrp, List.length_take]
                have := congrArg List.length hdr
                simp only [List.length_drop, List.length_cons] at this ⊢
                omega
              have hllen : (o :: l).length = k + 1 + rest'.length := by rw [hsplit]; simp [hklen]; omega
              have hgl : ∀ m, m < g.length → ops[i + m]? = g[m]? := fun m hm => by
                rw [hl m (by omega), hsplit, List.getElem?_append_left hm]
              have hrl : ∀ m, m < rest'.length → ops[i + k + 1 + m]? = rest'[m]? := fun m hm => by
                rw [show i + k + 1 + m = i + (k + 1 + m) by omega, hl (k + 1 + m) (by omega), hsplit, List.getElem?_append_right (by omega), hklen, show k + 1 + m - k = m + 1 by omega]
                simp
              have hbv : a.tmps[c]? = some (.bool b) := by
                have h1 := he.2 c
                rw [hb] at h1
                simp only [RelV] at h1
                have hlt : c < e.length := by
                  rcases Nat.lt_or_ge c e.length with h2 | h2
                  · exact h2
                  · rw [List.getD_eq_getElem?_getD, List.getElem?_eq_none h2] at hb
                    cases hb
                have hlt' : c < a.tmps.size := he.1 ▸ hlt
                rw [Array.getD_eq_getD_getElem?, Array.getElem?_eq_getElem hlt'] at h1
                rw [Array.getElem?_eq_getElem hlt']
                simpa using h1
              rw [hsplit, List.append_assoc, List.cons_append]
              -- behind the group: the operation that picks, and the rest
              have fin : ∀ (ι1 : Map) (h1 : H) (a1 : Act) (w1 : World) (u : V), ((cond (b == wn) ((runOps call P ops.toList n (some (q, wn)) g e h).map fun r => (ev r.1 (cond wn x y), r.2)) (some (ev (forget g e) (cond wn y x), h))) = some (u, h1)) →
                  EnvRel ι1 h1 (forget g e) a1.tmps → a1.tmps[c]? = some (.bool b) → (∀ d, (∀ o ∈ g, o.dst ≠ some d) → a1.tmps[d]? = a.tmps[d]?) → a1.defers = a.defers → a1.tmps.size = a.tmps.size → Rel ι1 base h1 w1 → Agree ι h ι1 h1 → Below base w w1 →
                  RelV ι1 h1 u (if b = true then a1.eval x else a1.eval y) → wpList P ops Q (pk :: (rest' ++ rest)) a1 w1 := by
                intro ι1 h1 a1 w1 u hu he1 hb1 hk1 hd1 hz1 hr1 hag1 hbl1 hpick
                rw [hu] at hrun
                simp only [Option.bind_some] at hrun
                have hctx1 : Ctx ops ctx a1 := fun q' w' hc' => by
                  obtain ⟨c', k1, k2⟩ := hctx q' w' hc'
                  refine ⟨c', k1, ?_⟩
                  rw [hk1 c' (fun o' ho' => hdst q' w' c' hc' k1 o' (by rw [hsplit]; simp [ho']))]
                  exact k2
                unfold wpList
                rw [if_pos (hctx1.wanted hpg)]
                left
                unfold Oper.wp
                have hex : (execOp a1.eval pk).run P w1 = .ok (.value (if b = true then a1.eval x else a1.eval y)) w1 := by
                  unfold execOp
                  have : a1.eval (.tmp c) = .bool b := by
                    simp only [Act.eval]
                    rw [Array.getD_eq_getD_getElem?, hb1]
                    rfl
                  simp only [hpop, Sem.run_bind, this, asBool, Sem.run_pure, Result.andThen_ok]
                rw [hex, Oper.upon_value, hpdst]
                refine runOps_wp hcall n ctx (i + k + 1) rest' rest ι1 _ h1 e' h' _ w1 hrun g4 hrl ?_ (fun q' w' c' hc' hd' o' ho' => hdst q' w' c' hc' hd' o' (by rw [hsplit]; simp [ho'])) (he1.put pdst hpick) hr1 ?_
                · intro q' w' hc'
                  obtain ⟨c', k1, k2⟩ := hctx1 q' w' hc'
                  exact ⟨c', k1, by rw [put_other _ _ _ _ (by rw [← hpdst]; exact hdst q' w' c' hc' k1 pk (by rw [hsplit]; simp))]; exact k2⟩
                · intro a' w'' ι'' k1 k2 k3 k4 k5 k6 k7
                  refine hK a' w'' ι'' k1 k2 (hag1.trans k3) (hbl1.trans k4) (by rw [k5, put_defers, hd1]) (fun d hd => ?_) (by rw [k7, put_size, hz1])
                  rw [k6 d (fun o' ho' => hd o' (by rw [hsplit]; simp [ho'])), put_other _ _ _ _ (by rw [← hpdst]; exact hd pk (by rw [hsplit]; simp)), hk1 d (fun o' ho' => hd o' (by rw [hsplit]; simp [ho']))]
              by_cases hbw : b = wn
              · subst hbw
                cases hgrun : runOps call P ops.toList n (some (q, b)) g e h with
                | none => simp [hgrun] at hrun
                | some r =>
                  obtain ⟨e1, h1⟩ := r
                  refine runOps_wp hcall n (some (q, b)) i g (pk :: (rest' ++ rest)) ι e h e1 h1 a w hgrun g3 hgl ?_ (fun q' w' c' hc' hd' => ?_) he hr ?_
                  · intro q' w' hc'
                    injection hc' with hc'
                    injection hc' with h2 h3
                    subst h2 h3
                    exact ⟨c, hq, hbv⟩
                  · injection hc' with hc'
                    injection hc' with h2 h3
                    subst h2
                    rw [hq] at hd'
                    injection hd' with hd'
                    subst hd'
                    exact grpOk_dst g2
                  · intro a1 w1 ι1 k1 k2 k3 k4 k5 k6 k7
                    refine fin ι1 h1 a1 w1 (ev e1 (cond b x y)) (by simp [hgrun]) ?_ ?_ k6 k5 k7 k2 k3 k4 ?_
                    · -- what was forgotten; what stayed
                      refine (he.step k3).forget g k7 fun t => ?_
                      by_cases ht : ∃ o ∈ g, o.dst = some t
                      · exact .inr ht
                      · left
                        rw [Array.getD_eq_getD_getElem?, Array.getD_eq_getD_getElem?, k6 t (fun o' ho' hd => ht ⟨o', ho', hd⟩)]
                    · rw [k6 c (grpOk_dst g2)]
                      exact hbv
                    · have := eval_rel k1
                      cases b
                      · simpa using this y
                      · simpa using this x
              · refine skip_group hq g (pk :: (rest' ++ rest)) i a w hgl g2 ⟨b, hbv, hbw⟩ (fun m h1 h2 => by omega) fun a1 k1 k2 k3 k4 => ?_
                have hne : (b == wn) = false := by simpa using hbw
                have he1 := he.forget g k2 k4
                refine fin ι h a1 w (ev (forget g e) (cond wn y x)) (by rw [hne]; rfl) he1 (by rw [k1 c (grpOk_dst g2)]; exact hbv) k1 k3 k2 hr (Agree.refl _ _) (Below.refl _ _) ?_
                have := eval_rel he1
                cases b <;> cases wn
                · exact absurd rfl hbw
                · simpa using this y
                · simpa using this x
                · exact absurd rfl hbw
          | _ => rw [hb] at hrun; simp at hrun
end

end Go.Hl
