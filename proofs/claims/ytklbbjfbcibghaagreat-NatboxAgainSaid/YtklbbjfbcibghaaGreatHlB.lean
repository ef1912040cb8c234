/- Part 2 of the library and the walks that the law's proof stands on: no condition. -/
import Derived.Test.YtklbbjfbcibghaaGreatHlA
import Derived.Orders
import Derived.LoopN
section
/-! Hl: operations whose order is open. -/
namespace Go.Hl
open Go.RowKit

/-! ### What waits for what -/
def waitOf (acc : List Nat) (o : Oper) : Nat := o.after.toList.foldl (fun s e => if Region.binds .any e then s ||| 2 ^ e.on ||| acc.getD e.on 0 else s) 0

theorem waits_cons (o : Oper) (l : List Oper) (acc : List Nat) : waits (o :: l) acc = waits l (acc ++ [waitOf acc o]) := rfl
theorem waits_length : ∀ (l : List Oper) (acc : List Nat), (waits l acc).length = acc.length + l.length
  | [], acc => by simp [waits]
  | o :: l, acc => by rw [waits_cons, waits_length l]; simp; omega
theorem waits_pre : ∀ (l : List Oper) (acc : List Nat) (i : Nat), i < acc.length → (waits l acc)[i]? = acc[i]?
  | [], acc, i, _ => rfl
  | o :: l, acc, i, hi => by
    rw [waits_cons, waits_pre l _ i (by simp; omega), List.getElem?_append_left hi]
theorem waits_get : ∀ (l : List Oper) (acc : List Nat) (m : Nat) (o : Oper), l[m]? = some o → ∃ acc', acc'.length = acc.length + m ∧ (∀ i, i < acc'.length → acc'[i]? = (waits l acc)[i]?) ∧ (waits l acc)[acc.length + m]? = some (waitOf acc' o)
  | [], _, _, _, h => by simp at h
  | o' :: l, acc, 0, o, h => by
    simp only [List.getElem?_cons_zero, Option.some.injEq] at h
    subst h
    refine ⟨acc, rfl, fun i hi => (waits_pre (o' :: l) acc i hi).symm, ?_⟩
    rw [waits_cons, waits_pre _ _ _ (by simp)]
    simp
  | o' :: l, acc, m + 1, o, h => by
    obtain ⟨acc', h1, h2, h3⟩ := waits_get l (acc ++ [waitOf acc o']) m o (by simpa using h)
    refine ⟨acc', by rw [h1]; simp; omega, h2, ?_⟩
    rw [waits_cons, show acc.length + (m + 1) = (acc ++ [waitOf acc o']).length + m by simp; omega]
    exact h3

theorem waitOf_bit (acc : List Nat) (k : Nat) : ∀ (es : List Edge) (s : Nat), (es.foldl (fun s e => if Region.binds .any e then s ||| 2 ^ e.on ||| acc.getD e.on 0 else s) s).testBit k = true →
    s.testBit k = true ∨ ∃ e ∈ es, Region.binds .any e = true ∧ (e.on = k ∨ (acc.getD e.on 0).testBit k = true)
  | [], s, h => .inl h
  | e :: es, s, h => by
    simp only [List.foldl_cons] at h
    rcases waitOf_bit acc k es _ h with h1 | ⟨e', he', h1⟩
    · split at h1
      · rename_i hb
        simp only [Nat.testBit_or, Bool.or_eq_true] at h1
        rcases h1 with (h1 | h1) | h1
        · exact .inl h1
        · right
          refine ⟨e, by simp, hb, .inl ?_⟩
          rw [Nat.testBit_two_pow] at h1
          simpa using h1
        · exact .inr ⟨e, by simp, hb, .inr h1⟩
      · exact .inl h1
    · exact .inr ⟨e', by simp [he'], h1⟩

/-- What is waited for has come up. -/
theorem bits_listed {ops : Array Oper} {S : Nat → Prop} (hback : ∀ (i : Nat) (o : Oper), ops[i]? = some o → ∀ e ∈ o.after, Region.binds .any e = true → e.on < i)
    (hS : ∀ (i : Nat) (o : Oper), S i → ops[i]? = some o → ∀ e ∈ o.after, Region.binds .any e = true → S e.on) :
    ∀ (i : Nat) (o : Oper), ops[i]? = some o → (∀ e ∈ o.after, Region.binds .any e = true → S e.on) → ∀ k, bit (waits ops.toList []) i k = true → S k := by
  intro i
  induction i using Nat.strongRecOn with
  | _ i ih =>
    intro o ho hd k hk
    obtain ⟨acc', h1, h2, h3⟩ := waits_get ops.toList [] i o (by simpa using ho)
    simp only [List.length_nil, Nat.zero_add] at h1 h3
    unfold bit at hk
    rw [List.getD_eq_getElem?_getD, h3] at hk
    simp only [Option.getD_some] at hk
    rcases waitOf_bit acc' k _ _ hk with h4 | ⟨e, he, hb, h4⟩
    · simp at h4
    · have he' : e ∈ o.after := by simpa using he
      rcases h4 with rfl | h4
      · exact hd e he' hb
      · have hlt := hback i o ho e he' hb
        have hse := hd e he' hb
        cases hoe : ops[e.on]? with
        | none =>
          have : e.on < ops.size := by
            have := (Array.getElem?_eq_some_iff.1 ho).1
            omega
          rw [Array.getElem?_eq_getElem this] at hoe
          cases hoe
        | some oe =>
          refine ih e.on hlt oe hoe (hS e.on oe hse hoe) k ?_
          unfold bit
          rw [List.getD_eq_getElem?_getD, ← h2 e.on (by omega), ← List.getD_eq_getElem?_getD]
          exact h4

/-! ### The run in the text's order -/
def eAt (rs : List Rec) (eN : Env) (m : Nat) : Env := match rs[m]? with
  | some r => r.e
  | none => eN
def vAt (rs : List Rec) (m : Nat) : V := match rs[m]? with
  | some r => r.v
  | none => .undef
def sAt (rs : List Rec) (m : Nat) : Bool := match rs[m]? with
  | some r => r.s
  | none => false

theorem lexRun_spec {call : CallT} {P : Program} {ops : List Oper} : ∀ (l : List Oper) (sk : List Bool) (e : Env) (h : H) (rs : List Rec) (eN : Env) (hN : H), lexRun call P ops l sk e h = some (rs, eN, hN) →
    rs.length = l.length ∧ eAt rs eN 0 = e ∧ hAt rs hN 0 = h ∧ ∀ m o, l[m]? = some o →
      skipOf ops o (sk ++ (rs.take m).map (·.s)) (eAt rs eN m) = some (sAt rs m) ∧
      eAt rs eN (m + 1) = put (eAt rs eN m) o.dst (vAt rs m) ∧
      (sAt rs m = true → vAt rs m = .undef ∧ hAt rs hN (m + 1) = hAt rs hN m) ∧
      (sAt rs m = false → step call P o (ev (eAt rs eN m)) (hAt rs hN m) = some (vAt rs m, hAt rs hN (m + 1)))
  | [], sk, e, h, rs, eN, hN, hr => by
    simp only [lexRun, Option.some.injEq, Prod.mk.injEq] at hr
    obtain ⟨rfl, rfl, rfl⟩ := hr
    exact ⟨rfl, rfl, rfl, fun m o ho => by simp at ho⟩
  | o :: l, sk, e, h, rs, eN, hN, hr => by
    simp only [lexRun] at hr
    cases hs : skipOf ops o sk e with
    | none => simp [hs] at hr
    | some s =>
      simp only [hs, Option.bind_some] at hr
      cases hv : (cond s (some (.undef, h)) (step call P o (ev e) h)) with
      | none => simp [hv] at hr
      | some r =>
        obtain ⟨v, h1⟩ := r
        simp only [hv, Option.bind_some] at hr
        cases hl : lexRun call P ops l (sk ++ [s]) (put e o.dst v) h1 with
        | none => simp [hl] at hr
        | some x =>
          obtain ⟨rs', eN', hN'⟩ := x
          simp only [hl, Option.bind_some, Option.some.injEq, Prod.mk.injEq] at hr
          obtain ⟨rfl, rfl, rfl⟩ := hr
          obtain ⟨k1, k2, k3, k4⟩ := lexRun_spec l _ _ _ _ _ _ hl
          refine ⟨by simp [k1], rfl, rfl, fun m o' ho' => ?_⟩
          cases m with
          | zero =>
            simp only [List.getElem?_cons_zero, Option.some.injEq] at ho'
            subst ho'
            refine ⟨by simpa [eAt, sAt] using hs, ?_, fun hs' => ?_, fun hs' => ?_⟩
            · show eAt (⟨e, h, v, s⟩ :: rs') eN' (0 + 1) = _
              have : eAt (⟨e, h, v, s⟩ :: rs') eN' (0 + 1) = eAt rs' eN' 0 := by simp [eAt]
              rw [this, k2]
              simp [eAt, vAt]
            · have hs'' : s = true := by simpa [sAt] using hs'
              subst hs''
              simp only [cond_true, Option.some.injEq, Prod.mk.injEq] at hv
              refine ⟨by simp [vAt, ← hv.1], ?_⟩
              have : hAt (⟨e, h, v, true⟩ :: rs') hN' (0 + 1) = hAt rs' hN' 0 := by simp [hAt]
              rw [this, k3, ← hv.2]
              simp [hAt]
            · have hs'' : s = false := by simpa [sAt] using hs'
              subst hs''
              simp only [cond_false] at hv
              have : hAt (⟨e, h, v, false⟩ :: rs') hN' (0 + 1) = hAt rs' hN' 0 := by simp [hAt]
              rw [this, k3]
              simpa [eAt, hAt, vAt] using hv
          | succ m =>
            obtain ⟨j1, j2, j3, j4⟩ := k4 m o' (by simpa using ho')
            have e1 : ∀ m, eAt (⟨e, h, v, s⟩ :: rs') eN' (m + 1) = eAt rs' eN' m := fun m => by simp [eAt]
            have e2 : ∀ m, hAt (⟨e, h, v, s⟩ :: rs') hN' (m + 1) = hAt rs' hN' m := fun m => by simp [hAt]
            have e3 : ∀ m, vAt (⟨e, h, v, s⟩ :: rs') (m + 1) = vAt rs' m := fun m => by simp [vAt]
            have e4 : ∀ m, sAt (⟨e, h, v, s⟩ :: rs') (m + 1) = sAt rs' m := fun m => by simp [sAt]
            rw [e1, e1, e2, e2, e3, e4]
            refine ⟨by simpa [List.append_assoc] using j1, j2, j3, j4⟩

end Go.Hl
end
section
/-! Hl: operations whose order is open (2): whatever order is drawn, it comes to the run in the text's order. -/
namespace Go.Hl
open Go.RowKit

section
variable {call : CallT} {P : Program} {ops : Array Oper} {e eN : Env} {h hN : H} {rs : List Rec}

/-- The run in the text's order, and what holds of it. -/
structure Lex (call : CallT) (P : Program) (ops : Array Oper) (e : Env) (h : H) (rs : List Rec) (eN : Env) (hN : H) : Prop where
  len : rs.length = ops.size
  e0 : eAt rs eN 0 = e
  h0 : hAt rs hN 0 = h
  step : ∀ (m : Nat) (o : Oper), ops[m]? = some o →
      skipOf ops.toList o ((rs.take m).map (·.s)) (eAt rs eN m) = some (sAt rs m) ∧
      eAt rs eN (m + 1) = put (eAt rs eN m) o.dst (vAt rs m) ∧
      (sAt rs m = true → vAt rs m = .undef ∧ hAt rs hN (m + 1) = hAt rs hN m) ∧
      (sAt rs m = false → Hl.step call P o (ev (eAt rs eN m)) (hAt rs hN m) = some (vAt rs m, hAt rs hN (m + 1)))
  pairs : ∀ p ∈ floats P ops.toList (waits ops.toList []), pairOk P ops.toList rs hN p.1 p.2 = true

theorem lex_of {r : Env × H} (hr : runAny call P ops.toList (floats P ops.toList (waits ops.toList [])) e h = some r) : ∃ rs, Lex call P ops e h rs r.1 r.2 := by
  unfold runAny at hr
  cases hl : lexRun call P ops.toList ops.toList [] e h with
  | none => simp [hl] at hr
  | some x =>
    obtain ⟨rs, eN, hN⟩ := x
    simp only [hl, Option.bind_some] at hr
    split at hr
    · rename_i hp
      injection hr with hr
      subst hr
      obtain ⟨k1, k2, k3, k4⟩ := lexRun_spec _ _ _ _ _ _ _ hl
      exact ⟨rs, by rw [k1, Array.length_toList], k2, k3, fun m o ho => by simpa using k4 m o (by simpa using ho), fun p hp' => List.all_eq_true.1 hp p hp'⟩
    · cases hr

/-- What holds of such operations. -/
structure AnyOk (P : Program) (ops : Array Oper) : Prop where
  back : ∀ (i : Nat) (o : Oper), ops[i]? = some o → ∀ x ∈ o.after, Region.binds .any x = true → x.on < i
  guard : ∀ (i : Nat) (o : Oper) (q : Nat) (w : Bool), ops[i]? = some o → o.guard = some (q, w) → q < i ∧ bit (waits ops.toList []) i q = true ∧ ∃ c, dstOf ops.toList q = some c
  dst : ∀ (i j : Nat) (o p : Oper) (d : Tmp), ops[i]? = some o → ops[j]? = some p → i ≠ j → o.dst = some d → p.dst ≠ some d
  look : ∀ (i j : Nat) (o p : Oper) (d : Tmp), ops[i]? = some o → ops[j]? = some p → p.dst = some d → d ∈ looks ops.toList o → (j < i → bit (waits ops.toList []) i j = true) ∧ (i < j → bit (waits ops.toList []) j i = true)
  chain : ∀ (i j : Nat) (o p : Oper), ops[i]? = some o → ops[j]? = some p → isAct P o = true → isAct P p = true → j < i → bit (waits ops.toList []) i j = true

theorem anyOk_ok (ha : anyOk P ops.toList (waits ops.toList []) = true) : AnyOk P ops := by
  have key : ∀ (i : Nat) (o : Oper), ops[i]? = some o → _ := fun i o ho => by
    have hi : i < ops.toList.length := by
      have := (Array.getElem?_eq_some_iff.1 ho).1
      simpa using this
    have := List.all_eq_true.1 ha i (List.mem_range.2 hi)
    rw [Array.getElem?_toList, ho] at this
    simp only [Bool.and_eq_true] at this
    exact this
  have key2 : ∀ (i j : Nat) (o p : Oper), ops[i]? = some o → ops[j]? = some p → _ := fun i j o p ho hp => by
    have hj : j < ops.toList.length := by
      have := (Array.getElem?_eq_some_iff.1 hp).1
      simpa using this
    have := List.all_eq_true.1 (key i o ho).2 j (List.mem_range.2 hj)
    rw [Array.getElem?_toList, hp] at this
    simp only [Bool.and_eq_true] at this
    exact this
  refine ⟨fun i o ho x hx hb => ?_, fun i o q w ho hg => ?_, fun i j o p d ho hp hij hd => ?_, fun i j o p d ho hp hd hl => ?_, fun i j o p ho hp h1 h2 hlt => ?_⟩
  · have := List.all_eq_true.1 (key i o ho).1.1 x (by simpa using hx)
    simpa [hb] using this
  · have := (key i o ho).1.2
    rw [hg] at this
    simp only [Bool.and_eq_true, decide_eq_true_eq] at this
    exact ⟨this.1.1, this.1.2, Option.isSome_iff_exists.1 this.2⟩
  · have := (key2 i j o p ho hp).1.1
    rw [if_neg hij, hd] at this
    simpa using this
  · have := (key2 i j o p ho hp).1.2
    rw [hd] at this
    simp only at this
    rw [if_pos (by simpa using hl)] at this
    constructor
    · intro hlt
      rwa [if_pos hlt] at this
    · intro hlt
      rwa [if_neg (by omega), if_pos hlt] at this
  · have := (key2 i j o p ho hp).2
    rwa [if_pos (by simp [h1, h2, hlt])] at this

theorem put_getD (E : Env) (d : Option Tmp) (v : V) (t : Nat) (ht : t < E.length) : (put E d v).getD t .undef = if d = some t then v else E.getD t .undef := by
  cases d with
  | none => simp [put]
  | some d =>
    simp only [put, Option.some.injEq]
    split
    · rename_i hd
      subst hd
      simp [List.getD, ht]
    · rename_i hd
      simp [List.getD, List.getElem?_set_ne hd]
theorem put_length (E : Env) (d : Option Tmp) (v : V) : (put E d v).length = E.length := by cases d <;> simp [put]

theorem Lex.env (L : Lex call P ops e h rs eN hN) (A : AnyOk P ops) : ∀ i, i ≤ ops.size → (eAt rs eN i).length = e.length ∧ ∀ t, t < e.length →
    (∀ (j : Nat) (o : Oper), j < i → ops[j]? = some o → o.dst = some t → (eAt rs eN i).getD t .undef = vAt rs j) ∧
    ((∀ (j : Nat) (o : Oper), j < i → ops[j]? = some o → o.dst ≠ some t) → (eAt rs eN i).getD t .undef = e.getD t .undef)
  | 0, _ => ⟨by rw [L.e0], fun t _ => ⟨fun j o hj => by omega, fun _ => by rw [L.e0]⟩⟩
  | i + 1, hi => by
    have hlt : i < ops.size := by omega
    obtain ⟨k1, k2⟩ := L.env A i (by omega)
    have ho : ops[i]? = some ops[i] := Array.getElem?_eq_getElem hlt
    obtain ⟨-, he, -, -⟩ := L.step i _ ho
    refine ⟨by rw [he, put_length]; exact k1, fun t ht => ?_⟩
    obtain ⟨k3, k4⟩ := k2 t ht
    rw [he, put_getD _ _ _ _ (by omega)]
    constructor
    · intro j o hj hoj hd
      by_cases hji : j = i
      · subst hji
        rw [ho] at hoj
        injection hoj with hoj
        rw [hoj, if_pos hd]
      · rw [if_neg (fun h => A.dst j i o _ t hoj ho hji hd h)]
        exact k3 j o (by omega) hoj hd
    · intro hno
      rw [if_neg (hno i _ (by omega) ho)]
      exact k4 fun j o hj hoj => hno j o (by omega) hoj

theorem Lex.still (L : Lex call P ops e h rs eN hN) {i : Nat} {o : Oper} (ho : ops[i]? = some o) (hn : ¬ (isAct P o = true ∧ sAt rs i = false)) : hAt rs hN (i + 1) = hAt rs hN i := by
  obtain ⟨-, -, h1, h2⟩ := L.step i o ho
  cases hs : sAt rs i with
  | true => exact (h1 hs).2
  | false =>
    have h3 := h2 hs
    have hna : isAct P o = false := by
      cases ha : isAct P o with
      | true => exact absurd ⟨ha, hs⟩ hn
      | false => rfl
    unfold Hl.step at h3
    unfold isAct at hna
    split at h3
    · cases hp : pureOp P o (ev (eAt rs eN i)) with
      | none => simp [hp] at h3
      | some u =>
        simp only [hp, Option.map_some, Option.some.injEq, Prod.mk.injEq] at h3
        exact h3.2.symm
    · cases hp : readOp P o.op (ev (eAt rs eN i)) (hAt rs hN i) with
      | none => simp [hp] at h3
      | some u =>
        simp only [hp, Option.map_some, Option.some.injEq, Prod.mk.injEq] at h3
        exact h3.2.symm
    · rename_i hk
      rw [hk] at hna
      cases hna
    · rename_i hk
      rw [hk] at hna
      cases hna
    · cases h3

theorem Lex.same (L : Lex call P ops e h rs eN hN) {a : Nat} : ∀ b, a ≤ b → b ≤ ops.size → (∀ (k : Nat) (o : Oper), a ≤ k → k < b → ops[k]? = some o → ¬ (isAct P o = true ∧ sAt rs k = false)) → hAt rs hN b = hAt rs hN a
  | 0, hab, _, _ => by rw [Nat.le_zero.1 hab]
  | b + 1, hab, hb, hno => by
    by_cases he : a = b + 1
    · rw [he]
    · have hlt : b < ops.size := by omega
      rw [L.still (Array.getElem?_eq_getElem hlt) (hno b _ (by omega) (by omega) (Array.getElem?_eq_getElem hlt))]
      exact L.same b (by omega) (by omega) fun k o h1 h2 => hno k o h1 (by omega)

/-- The first, the last one that acts. -/
theorem first_act {p : Nat → Prop} [DecidablePred p] {a : Nat} : ∀ b, a ≤ b → (∃ k, a ≤ k ∧ k < b ∧ p k) → ∃ k, a ≤ k ∧ k < b ∧ p k ∧ ∀ j, a ≤ j → j < k → ¬ p j
  | 0, _, ⟨k, _, h, _⟩ => by omega
  | b + 1, hab, hx => by
    by_cases hb : ∃ k, a ≤ k ∧ k < b ∧ p k
    · obtain ⟨k, h1, h2, h3⟩ := first_act b (by obtain ⟨k, h1, h2, _⟩ := hb; omega) hb
      exact ⟨k, h1, by omega, h3⟩
    · obtain ⟨k, h1, h2, h3⟩ := hx
      have hkb : k = b := by
        rcases Nat.lt_or_ge k b with h4 | h4
        · exact absurd ⟨k, h1, h4, h3⟩ hb
        · omega
      subst hkb
      exact ⟨k, h1, h2, h3, fun j hj1 hj2 hj3 => hb ⟨j, hj1, hj2, hj3⟩⟩
theorem last_act {p : Nat → Prop} [DecidablePred p] {a : Nat} : ∀ b, (∃ k, a ≤ k ∧ k < b ∧ p k) → ∃ k, a ≤ k ∧ k < b ∧ p k ∧ ∀ j, k < j → j < b → ¬ p j
  | 0, ⟨k, _, h, _⟩ => by omega
  | b + 1, hx => by
    by_cases hpb : a ≤ b ∧ p b
    · exact ⟨b, hpb.1, by omega, hpb.2, fun j h1 h2 => by omega⟩
    · obtain ⟨k, h1, h2, h3⟩ := hx
      have hkb : k < b := by
        rcases Nat.lt_or_ge k b with h4 | h4
        · exact h4
        · have : k = b := by omega
          subst this
          exact absurd ⟨h1, h3⟩ hpb
      obtain ⟨k', k1, k2, k3, k4⟩ := last_act b ⟨k, h1, hkb, h3⟩
      refine ⟨k', k1, by omega, k3, fun j hj1 hj2 hj3 => ?_⟩
      rcases Nat.lt_or_ge j b with h4 | h4
      · exact k4 j hj1 h4 hj3
      · have : j = b := by omega
        subst this
        exact hpb ⟨by omega, hj3⟩

theorem floats_mem {B : List Nat} {L : List Oper} {j k : Nat} {oj ok : Oper} (hj : L[j]? = some oj) (hk : L[k]? = some ok) (h1 : isRead P oj = true) (h2 : isAct P ok = true) (h3 : (if j < k then !bit B k j else !bit B j k) = true) : (j, k) ∈ floats P L B := by
  unfold floats
  rw [List.mem_flatMap]
  refine ⟨j, List.mem_range.2 (List.getElem?_eq_some_iff.1 hj).1, ?_⟩
  rw [List.mem_filterMap]
  refine ⟨k, List.mem_range.2 (List.getElem?_eq_some_iff.1 hk).1, ?_⟩
  rw [hj, hk]
  simp only
  rw [if_pos (by simp only [h1, h2, h3, Bool.and_true])]
end

end Go.Hl
end
section
/-! Hl: operations whose order is open (3). -/
namespace Go.Hl
open Go.RowKit

def Listed (listed : Array Bool) (i : Nat) : Prop := listed.getD i false = true

section
variable {call : CallT} {P : Program} {ops : Array Oper} {e eN : Env} {h hN : H} {rs : List Rec} {base : Nat}

/-- Behind any of the operations, in whatever order. -/
structure Inv (P : Program) (ops : Array Oper) (e : Env) (rs : List Rec) (hN : H) (base : Nat) (ι0 : Map) (h : H) (a0 : Act) (w0 : World) (listed : Array Bool) (a : Act) (w : World) (ι : Map) (m : Nat) : Prop where
  size : listed.size = ops.size
  closed : ∀ (i : Nat) (o : Oper), Listed listed i → ops[i]? = some o → ∀ x ∈ o.after, Region.binds .any x = true → Listed listed x.on
  cut : m ≤ ops.size ∧ ∀ (k : Nat) (o : Oper), ops[k]? = some o → isAct P o = true → sAt rs k = false → (Listed listed k ↔ k < m)
  len : e.length = a.tmps.size
  done : ∀ (t j : Nat) (o : Oper), t < e.length → ops[j]? = some o → o.dst = some t → Listed listed j → RelV ι (hAt rs hN m) (vAt rs j) (a.tmps.getD t Go.undef)
  left : ∀ t, t < e.length → (∀ (j : Nat) (o : Oper), ops[j]? = some o → o.dst = some t → ¬ Listed listed j) → RelV ι (hAt rs hN m) (e.getD t .undef) (a.tmps.getD t Go.undef)
  skips : ∀ (j : Nat) (o : Oper) (d : Tmp), ops[j]? = some o → o.dst = some d → Listed listed j → sAt rs j = true → d < e.length → a.tmps.getD d Go.undef = Go.undef
  rel : Rel ι base (hAt rs hN m) w
  agree : Agree ι0 h ι (hAt rs hN m)
  below : Below base w0 w
  defers : a.defers = a0.defers

theorem listed_set {listed : Array Bool} {i : Nat} (hi : i < listed.size) (j : Nat) : Listed (listed.setIfInBounds i true) j ↔ j = i ∨ Listed listed j := by
  unfold Listed
  by_cases h : j = i
  · subst h
    simp [hi]
  · rw [getD_set_ne false (Ne.symm h)]
    simp [h]

theorem putA_getD (a : Act) (d : Option Tmp) (v : Value) (t : Nat) (ht : t < a.tmps.size) : (a.put d v).tmps.getD t Go.undef = if d = some t then v else a.tmps.getD t Go.undef := by
  cases d with
  | none => simp [Act.put]
  | some d =>
    simp only [Act.put, Option.some.injEq]
    by_cases hd : d = t
    · subst hd
      simp [ht]
    · rw [if_neg hd]
      simp only [Array.getD_eq_getD_getElem?]
      rw [Array.getElem?_setIfInBounds_ne hd]

open Classical in
/-- One more has come up. -/
theorem Inv.next (_L : Lex call P ops e h rs eN hN) (A : AnyOk P ops) {ι0 : Map} {a0 : Act} {w0 : World} {listed : Array Bool} {a : Act} {w : World} {ι ι' : Map} {m m' : Nat} {i : Nat} {o : Oper} {v' : Value} {w' : World}
    (I : Inv P ops e rs hN base ι0 h a0 w0 listed a w ι m) (hi : i ∈ Region.ready .any ops listed) (ho : ops[i]? = some o)
    (hm' : m' ≤ ops.size ∧ ∀ (k : Nat) (o : Oper), ops[k]? = some o → isAct P o = true → sAt rs k = false → ((k = i ∨ Listed listed k) ↔ k < m'))
    (hv : RelV ι' (hAt rs hN m') (vAt rs i) v') (hs : sAt rs i = true → v' = Go.undef) (hr : Rel ι' base (hAt rs hN m') w') (ha : Agree ι (hAt rs hN m) ι' (hAt rs hN m')) (hb : Below base w w') :
    Inv P ops e rs hN base ι0 h a0 w0 (listed.setIfInBounds i true) (a.put o.dst v') w' ι' m' := by
  obtain ⟨hun, o', ho', hall⟩ := mem_ready.1 hi
  rw [ho] at ho'
  injection ho' with ho'
  subst ho'
  have hilt : i < listed.size := by
    rw [I.size]
    exact (Array.getElem?_eq_some_iff.1 ho).1
  have hls := fun j => listed_set hilt j
  refine ⟨by simp [I.size], fun j p hj hp x hx hbx => ?_, ⟨hm'.1, fun k p hk h1 h2 => by rw [hls]; exact hm'.2 k p hk h1 h2⟩, by rw [put_size]; exact I.len, fun t j p ht hp hd hj => ?_, fun t ht hno => ?_, fun j p d hp hd hj hsk hdl => ?_, hr, I.agree.trans ha, I.below.trans hb, by rw [put_defers]; exact I.defers⟩
  · rw [hls]
    rcases (hls j).1 hj with rfl | hj
    · rw [ho] at hp
      injection hp with hp
      subst hp
      exact .inr (hall x hx hbx)
    · exact .inr (I.closed j p hj hp x hx hbx)
  · rw [putA_getD _ _ _ _ (I.len ▸ ht)]
    rcases (hls j).1 hj with rfl | hj
    · rw [ho] at hp
      injection hp with hp
      subst hp
      rw [if_pos hd]
      exact hv
    · by_cases hji : j = i
      · subst hji
        rw [ho] at hp
        injection hp with hp
        subst hp
        rw [if_pos hd]
        exact hv
      · rw [if_neg (fun hdo => A.dst j i p o t hp ho hji hd hdo)]
        exact (I.done t j p ht hp hd hj).step ha
  · rw [putA_getD _ _ _ _ (I.len ▸ ht), if_neg (fun hdo => hno i o ho hdo ((hls i).2 (.inl rfl)))]
    exact (I.left t ht fun j p hp hd hj => hno j p hp hd ((hls j).2 (.inr hj))).step ha
  · rw [putA_getD _ _ _ _ (I.len ▸ hdl)]
    rcases (hls j).1 hj with rfl | hj
    · rw [ho] at hp
      injection hp with hp
      subst hp
      rw [if_pos hd]
      exact hs hsk
    · by_cases hji : j = i
      · subst hji
        rw [ho] at hp
        injection hp with hp
        subst hp
        rw [if_pos hd]
        exact hs hsk
      · rw [if_neg (fun hdo => A.dst j i p o d hp ho hji hd hdo)]
        exact I.skips j p d hp hd hj hsk hdl

/-- Its operands are what they are in the text's order. -/
theorem Inv.look (L : Lex call P ops e h rs eN hN) (A : AnyOk P ops) {ι0 : Map} {a0 : Act} {w0 : World} {listed : Array Bool} {a : Act} {w : World} {ι : Map} {m : Nat} {i : Nat} {o : Oper}
    (I : Inv P ops e rs hN base ι0 h a0 w0 listed a w ι m) (hi : ¬ Listed listed i) (hbits : ∀ k, bit (waits ops.toList []) i k = true → Listed listed k) (hlb : ∀ j p k, ops[j]? = some p → Listed listed j → bit (waits ops.toList []) j k = true → Listed listed k)
    (ho : ops[i]? = some o) {t : Tmp} (ht : t ∈ looks ops.toList o) : RelV ι (hAt rs hN m) ((eAt rs eN i).getD t .undef) (a.tmps.getD t Go.undef) := by
  have hil : i < ops.size := (Array.getElem?_eq_some_iff.1 ho).1
  obtain ⟨hlen, henv⟩ := L.env A i (by omega)
  by_cases hte : t < e.length
  · obtain ⟨k1, k2⟩ := henv t hte
    by_cases hw : ∃ (j : Nat) (p : Oper), ops[j]? = some p ∧ p.dst = some t
    · obtain ⟨j, p, hp, hd⟩ := hw
      obtain ⟨l1, l2⟩ := A.look i j o p t ho hp hd ht
      rcases Nat.lt_trichotomy j i with hji | hji | hji
      · rw [k1 j p hji hp hd]
        exact I.done t j p hte hp hd (hbits j (l1 hji))
      · subst hji
        rw [k2 fun j' p' hj' hp' hd' => A.dst j' j p' p t hp' hp (by omega) hd' hd]
        refine I.left t hte fun j' p' hp' hd' hj' => ?_
        by_cases hjj : j' = j
        · subst hjj; exact hi hj'
        · exact A.dst j' j p' p t hp' hp hjj hd' hd
      · have hnj : ¬ Listed listed j := fun hj => hi (hlb j p i hp hj (l2 hji))
        rw [k2 fun j' p' hj' hp' hd' => A.dst j' j p' p t hp' hp (by omega) hd' hd]
        refine I.left t hte fun j' p' hp' hd' hj' => ?_
        by_cases hjj : j' = j
        · subst hjj; exact hnj hj'
        · exact A.dst j' j p' p t hp' hp hjj hd' hd
    · rw [k2 fun j p _ hp hd => hw ⟨j, p, hp, hd⟩]
      exact I.left t hte fun j p hp hd => absurd ⟨j, p, hp, hd⟩ hw
  · have : (eAt rs eN i).getD t .undef = .undef := by
      rw [List.getD_eq_getElem?_getD, List.getElem?_eq_none (by rw [hlen]; exact Nat.le_of_not_lt hte)]
      rfl
    rw [this]
    exact RelV.undef _

/-- A read reads here what it reads in the text's order. -/
theorem Inv.reads (L : Lex call P ops e h rs eN hN) {ι0 : Map} {a0 : Act} {w0 : World} {listed : Array Bool} {a : Act} {w : World} {ι : Map} {m : Nat} {i : Nat} {o : Oper}
    (I : Inv P ops e rs hN base ι0 h a0 w0 listed a w ι m) (hi : ¬ Listed listed i) (hbits : ∀ k, bit (waits ops.toList []) i k = true → Listed listed k) (hlb : ∀ j p k, ops[j]? = some p → Listed listed j → bit (waits ops.toList []) j k = true → Listed listed k)
    (ho : ops[i]? = some o) (hrd : isRead P o = true) (hsk : sAt rs i = false) (hread : readOp P o.op (ev (eAt rs eN i)) (hAt rs hN i) = some (vAt rs i)) :
    readOp P o.op (ev (eAt rs eN i)) (hAt rs hN m) = some (vAt rs i) := by
  have hil : i < ops.size := (Array.getElem?_eq_some_iff.1 ho).1
  have hri : ∃ r, rs[i]? = some r := ⟨_, List.getElem?_eq_getElem (by rw [L.len]; exact hil)⟩
  obtain ⟨ri, hri⟩ := hri
  have pair : ∀ k p, ops[k]? = some p → isAct P p = true → sAt rs k = false → (if i < k then !bit (waits ops.toList []) k i else !bit (waits ops.toList []) i k) = true →
      readOp P o.op (ev (eAt rs eN i)) (if i < k then hAt rs hN (k + 1) else hAt rs hN k) = some (vAt rs i) := fun k p hp hact hks hb => by
    have hkl : k < ops.size := (Array.getElem?_eq_some_iff.1 hp).1
    obtain ⟨rk, hrk⟩ : ∃ r, rs[k]? = some r := ⟨_, List.getElem?_eq_getElem (by rw [L.len]; exact hkl)⟩
    have hm := L.pairs (i, k) (floats_mem (by simpa using ho) (by simpa using hp) hrd hact hb)
    unfold pairOk at hm
    rw [Array.getElem?_toList, ho, hri, hrk] at hm
    simp only [Bool.or_eq_true] at hm
    have e1 : sAt rs i = ri.s := by simp [sAt, hri]
    have e2 : sAt rs k = rk.s := by simp [sAt, hrk]
    rw [e1] at hsk
    rw [e2] at hks
    rcases hm with (hm | hm) | hm
    · rw [hsk] at hm; cases hm
    · rw [hks] at hm; cases hm
    · have e3 : eAt rs eN i = ri.e := by simp [eAt, hri]
      have e4 : vAt rs i = ri.v := by simp [vAt, hri]
      have e5 : hAt rs hN k = rk.h := by simp [hAt, hrk]
      rw [e3, e4, e5]
      unfold sameAs at hm
      split at hm
      · rename_i u hu
        rw [hu, V.same_eq hm]
      · cases hm
  obtain ⟨hm1, hm2⟩ := I.cut
  have dec : ∀ k, Decidable (∃ p, ops[k]? = some p ∧ isAct P p = true ∧ sAt rs k = false) := fun k => Classical.propDecidable _
  rcases Nat.lt_or_ge i m with him | him
  · by_cases hx : ∃ k, i ≤ k ∧ k < m ∧ ∃ p, ops[k]? = some p ∧ isAct P p = true ∧ sAt rs k = false
    · obtain ⟨k, h1, h2, ⟨p, hp, hact, hks⟩, h4⟩ := last_act (p := fun k => ∃ p, ops[k]? = some p ∧ isAct P p = true ∧ sAt rs k = false) m hx
      have hkl : Listed listed k := (hm2 k p hp hact hks).2 h2
      have hik : i < k := by
        rcases Nat.lt_or_eq_of_le h1 with h5 | h5
        · exact h5
        · rw [← h5] at hkl
          exact absurd hkl hi
      have hnb : bit (waits ops.toList []) k i = false := by
        cases hb : bit (waits ops.toList []) k i with
        | false => rfl
        | true => exact absurd (hlb k p i hp hkl hb) hi
      have := pair k p hp hact hks (by rw [if_pos hik, hnb]; rfl)
      rw [if_pos hik] at this
      rw [L.same (a := k + 1) m (by omega) hm1 fun j p' hj1 hj2 hp' hact' => h4 j (by omega) hj2 ⟨p', hp', hact'.1, hact'.2⟩]
      exact this
    · rw [L.same (a := i) m (by omega) hm1 fun j p' hj1 hj2 hp' hact' => hx ⟨j, hj1, hj2, p', hp', hact'.1, hact'.2⟩]
      exact hread
  · by_cases hx : ∃ k, m ≤ k ∧ k < i ∧ ∃ p, ops[k]? = some p ∧ isAct P p = true ∧ sAt rs k = false
    · obtain ⟨k, h1, h2, ⟨p, hp, hact, hks⟩, h4⟩ := first_act (p := fun k => ∃ p, ops[k]? = some p ∧ isAct P p = true ∧ sAt rs k = false) i him hx
      have hkl : ¬ Listed listed k := fun hk => by
        have := (hm2 k p hp hact hks).1 hk
        omega
      have hnb : bit (waits ops.toList []) i k = false := by
        cases hb : bit (waits ops.toList []) i k with
        | false => rfl
        | true => exact absurd (hbits k hb) hkl
      have := pair k p hp hact hks (by rw [if_neg (by omega), hnb]; rfl)
      rw [if_neg (by omega)] at this
      rw [← L.same (a := m) k h1 (by omega) fun j p' hj1 hj2 hp' hact' => h4 j hj1 hj2 ⟨p', hp', hact'.1, hact'.2⟩]
      exact this
    · rw [← L.same (a := m) i him (by omega) fun j p' hj1 hj2 hp' hact' => hx ⟨j, hj1, hj2, p', hp', hact'.1, hact'.2⟩]
      exact hread
end

end Go.Hl
end
section
/-! Hl: operations whose order is open (4). -/
namespace Go.Hl
open Go.RowKit

section
variable {call : CallT} {P : Program} {ops : Array Oper} {e eN : Env} {h hN : H} {rs : List Rec} {base : Nat}

/-- Operands and a guard's temporary are all that an operation looks at. -/
noncomputable def lookAt (ops : List Oper) (o : Oper) (E : Env) : Operand → V := fun x =>
  match x with
  | .tmp t => @ite V (t ∈ looks ops o) (Classical.propDecidable _) (E.getD t .undef) .undef
  | x => ev E x

theorem lookAt_eq (ops : List Oper) (o : Oper) (E : Env) : ∀ x ∈ o.op.operands, lookAt ops o E x = ev E x := by
  intro x hx
  cases x with
  | tmp t =>
    have : t ∈ looks ops o := List.mem_append_left _ (List.mem_filterMap.2 ⟨.tmp t, by simpa using hx, rfl⟩)
    simp only [lookAt, ev, if_pos this]
  | _ => rfl

theorem anyOp (hcall : CallsOk call P) {Q : Exit → Act → World → Prop} (L : Lex call P ops e h rs eN hN) (A : AnyOk P ops) {ι0 : Map} {a0 : Act} {w0 : World} {listed : Array Bool} {a : Act} {w : World} {ι : Map} {m i : Nat} {K : Act → World → Prop}
    (I : Inv P ops e rs hN base ι0 h a0 w0 listed a w ι m) (hi : i ∈ Region.ready .any ops listed)
    (hK : ∀ a' w' ι' m', Inv P ops e rs hN base ι0 h a0 w0 (listed.setIfInBounds i true) a' w' ι' m' → K a' w') : wpOp P ops Q i K a w := by
  obtain ⟨hun, o, ho, hall⟩ := mem_ready.1 hi
  have hil : i < ops.size := (Array.getElem?_eq_some_iff.1 ho).1
  have hni : ¬ Listed listed i := fun hl => by
    unfold Listed at hl
    have hlt : i < listed.size := by rw [I.size]; exact hil
    simp [hlt] at hl hun
    rw [hl] at hun
    cases hun
  have hbits := bits_listed A.back I.closed i o ho hall
  have hlb : ∀ (j : Nat) (p : Oper) (k : Nat), ops[j]? = some p → Listed listed j → bit (waits ops.toList []) j k = true → Listed listed k := fun j p k hp hj =>
    bits_listed A.back I.closed j p hp (I.closed j p hj hp) k
  obtain ⟨hsk, henv, hs1, hs2⟩ := L.step i o ho
  have hlook := fun t ht => I.look L A hni hbits hlb ho (t := t) ht
  have hρ : ∀ x, RelV ι (hAt rs hN m) (lookAt ops.toList o (eAt rs eN i) x) (a.eval x) := by
    intro x
    cases x with
    | tmp t =>
      simp only [lookAt]
      split
      · rename_i ht
        exact hlook t ht
      · exact RelV.undef _
    | const v => exact ofVal_rel v
    | global g => exact RelV.undef _
    | func f =>
      simp only [lookAt, ev, Act.eval, RelV]
      exact ⟨#[], #[], rfl, by simp [RelVs], by simp [RelVs]⟩
  -- the guard
  have hwant : Region.wanted o (yielded ops a.tmps) = !sAt rs i := by
    unfold Region.wanted
    unfold skipOf at hsk
    cases hg : o.guard with
    | none =>
      rw [hg] at hsk
      simp only [Option.some.injEq] at hsk
      rw [← hsk]
      rfl
    | some qw =>
      obtain ⟨q, wn⟩ := qw
      obtain ⟨hqi, hqb, c, hc⟩ := A.guard i o q wn ho hg
      rw [hg] at hsk
      simp only at hsk
      rw [hc] at hsk
      simp only at hsk
      have hqS : Listed listed q := hbits q hqb
      have hql : q < ops.size := by omega
      have hoq : ops[q]? = some ops[q] := Array.getElem?_eq_getElem hql
      have hdq : ops[q].dst = some c := by
        unfold dstOf at hc
        rw [Array.getElem?_toList, hoq] at hc
        simpa using hc
      have hsq : ((rs.take i).map (·.s)).getD q false = sAt rs q := by
        have hq : q < rs.length := by rw [L.len]; omega
        simp [List.getD, sAt, hqi, hq]
      rw [hsq] at hsk
      have hy : yielded ops a.tmps q = match a.tmps[c]? with
          | some (.bool b) => some b
          | _ => none := by
        unfold yielded
        rw [hoq]
        simp only [Option.bind_some, hdq]
        cases a.tmps[c]? with
        | none => rfl
        | some v => cases v <;> rfl
      have hcl : c ∈ looks ops.toList o := List.mem_append_right _ (by rw [hg]; simp [hc])
      simp only
      rw [hy]
      cases hsqv : sAt rs q with
      | true =>
        rw [hsqv, if_pos rfl] at hsk
        injection hsk with hsk
        rw [← hsk]
        have hnb : ∀ b, a.tmps[c]? ≠ some (.bool b) := by
          intro b hb
          have hclt : c < a.tmps.size := (Array.getElem?_eq_some_iff.1 hb).1
          have := I.skips q _ c hoq hdq hqS hsqv (by rw [I.len]; exact hclt)
          rw [Array.getD_eq_getD_getElem?, hb] at this
          simp [Go.undef] at this
        cases hx : a.tmps[c]? with
        | none => simp
        | some v =>
          cases v with
          | bool b => exact absurd hx (hnb b)
          | _ => simp
      | false =>
        rw [hsqv] at hsk
        simp only [Bool.false_eq_true, if_false] at hsk
        have hr := hlook c hcl
        split at hsk
        · rename_i b hb
          injection hsk with hsk
          rw [hb] at hr
          simp only [RelV] at hr
          have hclt : c < a.tmps.size := by
            rcases Nat.lt_or_ge c a.tmps.size with h1 | h1
            · exact h1
            · rw [Array.getD_eq_getD_getElem?, Array.getElem?_eq_none h1] at hr
              simp [Go.undef] at hr
          rw [Array.getD_eq_getD_getElem?, Array.getElem?_eq_getElem hclt] at hr
          simp only [Option.getD_some] at hr
          rw [Array.getElem?_eq_getElem hclt, hr, ← hsk]
          cases b <;> cases wn <;> rfl
        · cases hsk
  unfold wpOp
  simp only [ho]
  rw [hwant]
  have hcutN : ∀ m', (¬ (isAct P o = true ∧ sAt rs i = false)) → m' = m → m' ≤ ops.size ∧ ∀ (k : Nat) (p : Oper), ops[k]? = some p → isAct P p = true → sAt rs k = false → ((k = i ∨ Listed listed k) ↔ k < m') := fun m' hna hm' => by
    subst hm'
    refine ⟨I.cut.1, fun k p hp hact hks => ?_⟩
    rw [← I.cut.2 k p hp hact hks]
    constructor
    · rintro (rfl | hl)
      · rw [ho] at hp
        injection hp with hp
        subst hp
        exact absurd ⟨hact, hks⟩ hna
      · exact hl
    · exact .inr
  cases hsv : sAt rs i with
  | true =>
    simp only [Bool.not_true, Bool.false_eq_true, if_false]
    obtain ⟨hv, -⟩ := hs1 hsv
    exact hK _ w ι m (I.next L A hi ho (hcutN m (fun hx => by rw [hsv] at hx; cases hx.2) rfl) (by rw [hv]; exact RelV.undef _) (fun _ => rfl) I.rel (Agree.refl _ _) (Below.refl _ _))
  | false =>
    simp only [Bool.not_false, if_true]
    left
    have hst := hs2 hsv
    have hnsk : sAt rs i = true → ∀ v' : Value, v' = Go.undef := fun hx => by rw [hsv] at hx; cases hx
    have hst0 := hst
    unfold Hl.step at hst
    unfold Oper.wp
    split at hst
    · rename_i hk
      have hna : ¬ (isAct P o = true ∧ sAt rs i = false) := fun hx => by unfold isAct at hx; rw [hk] at hx; cases hx.1
      cases hp : pureOp P o (ev (eAt rs eN i)) with
      | none => simp [hp] at hst
      | some u =>
        simp only [hp, Option.map_some, Option.some.injEq, Prod.mk.injEq] at hst
        rw [← pureOp_congr (lookAt_eq ops.toList o _)] at hp
        obtain ⟨v', h1, h2⟩ := sim_pure (w := w) hp hρ
        rw [h1]
        rw [hst.1] at h2
        exact hK _ w ι m (I.next L A hi ho (hcutN m hna rfl) h2 (fun hx => hnsk hx v') I.rel (Agree.refl _ _) (Below.refl _ _))
    · rename_i hk
      have hna : ¬ (isAct P o = true ∧ sAt rs i = false) := fun hx => by unfold isAct at hx; rw [hk] at hx; cases hx.1
      cases hp : readOp P o.op (ev (eAt rs eN i)) (hAt rs hN i) with
      | none => simp [hp] at hst
      | some u =>
        simp only [hp, Option.map_some, Option.some.injEq, Prod.mk.injEq] at hst
        rw [hst.1] at hp
        have hp' := I.reads L hni hbits hlb ho (by unfold isRead; rw [hk]) hsv hp
        rw [← readOp_congr (lookAt_eq ops.toList o _)] at hp'
        obtain ⟨v', h1, h2⟩ := sim_read hp' I.rel hρ
        rw [h1]
        exact hK _ w ι m (I.next L A hi ho (hcutN m hna rfl) h2 (fun hx => hnsk hx v') I.rel (Agree.refl _ _) (Below.refl _ _))
    all_goals try (cases hst; done)
    all_goals
      rename_i hk
      have hact : isAct P o = true := by unfold isAct; rw [hk]
      have hmi : m ≤ i := by
        rcases Nat.lt_or_ge i m with h1 | h1
        · exact absurd ((I.cut.2 i o ho hact hsv).2 h1) hni
        · exact h1
      have hsame : hAt rs hN i = hAt rs hN m := L.same i hmi (by omega) fun k p hk1 hk2 hp hx => by
        have := (I.cut.2 k p hp hx.1 hx.2).1 (hbits k (A.chain i k o p ho hp hact hx.1 hk2))
        omega
      have hcut' : i + 1 ≤ ops.size ∧ ∀ (k : Nat) (p : Oper), ops[k]? = some p → isAct P p = true → sAt rs k = false → ((k = i ∨ Listed listed k) ↔ k < i + 1) := by
        refine ⟨by omega, fun k p hp hx1 hx2 => ⟨?_, fun hki => ?_⟩⟩
        · rintro (rfl | hl)
          · omega
          · have := (I.cut.2 k p hp hx1 hx2).1 hl
            omega
        · by_cases h1 : k = i
          · exact .inl h1
          · exact .inr (hbits k (A.chain i k o p ho hp hact hx1 (by omega)))
      rw [hsame] at hst hst0
    · rw [← actOp_congr (lookAt_eq ops.toList o _)] at hst
      obtain ⟨v', w', ι', h1, h2, h3, h4, h5⟩ := sim_act hst I.rel hρ
      rcases h1 with h1 | ⟨h1, rfl⟩
      · rw [h1]
        exact hK _ w' ι' (i + 1) (I.next L A hi ho hcut' h2 (fun hx => hnsk hx v') h3 h4 h5)
      · rw [h1]
        exact hK _ w' ι' (i + 1) (I.next L A hi ho hcut' h2 (fun hx => rfl) h3 h4 h5)
    · rw [← callOp_congr (lookAt_eq ops.toList o _)] at hst
      unfold callOp at hst
      split at hst
      · rename_i f args argTypes hoo
        split at hst
        · rename_i g first caps hf
          obtain ⟨⟨fn, hfn, hname, hbody⟩, hc⟩ := hcall _ _ _ _ _ hst
          have hfv := hρ f
          rw [hf] at hfv
          simp only [RelV] at hfv
          obtain ⟨first', caps', hfv, r1, r2⟩ := hfv
          have hargs : RelVs ι (hAt rs hN m) (first ++ args.toList.map (lookAt ops.toList o (eAt rs eN i)) ++ caps) (first'.toList ++ args.toList.map a.eval ++ caps'.toList) := (r1.append (map_rel hρ _)).append r2
          have hrun : (execOp a.eval o).run P w = .ok (.enter g (first' ++ args.map a.eval ++ caps')) w := by
            unfold execOp resolve
            simp only [hoo, Sem.run_bind, hfv, Deferred.ofValue, Sem.run_pure, Result.andThen_ok, invoke, callFunc, run_program, hfn, hname, Bool.false_eq_true, if_false, hbody]
          rw [hrun, Oper.upon_enter]
          have := hc ι base w _ hargs I.rel
          rw [show (first'.toList ++ args.toList.map a.eval ++ caps'.toList).toArray = first' ++ args.map a.eval ++ caps' by apply Array.ext'; simp] at this
          refine this.mono fun en w' hen => ?_
          obtain ⟨v', ι', rfl, h2, h3, h4, h5⟩ := hen
          exact hK _ w' ι' (i + 1) (I.next L A hi ho hcut' h2 (fun hx => hnsk hx v') h3 h4 h5)
        · cases hst
      · cases hst

/-- Whatever order is drawn. -/
theorem any_wp (hcall : CallsOk call P) {Q : Exit → Act → World → Prop} (L : Lex call P ops e h rs eN hN) (A : AnyOk P ops) {ι0 : Map} {a0 : Act} {w0 : World}
    (hK : ∀ a' w' ι', EnvRel ι' hN eN a'.tmps → Rel ι' base hN w' → Agree ι0 h ι' hN → Below base w0 w' → a'.defers = a0.defers → Q .normal a' w') :
    ∀ (fuel : Nat) (U : List Nat) (listed : Array Bool) (a : Act) (w : World) (ι : Map) (m : Nat), U.length = fuel → (∀ i, i < ops.size → ¬ Listed listed i → i ∈ U) → Inv P ops e rs hN base ι0 h a0 w0 listed a w ι m →
      wpAny P .any ops Q fuel listed a w := by
  -- all have come up
  have fin : ∀ (listed : Array Bool) (a : Act) (w : World) (ι : Map) (m : Nat), (∀ i, i < ops.size → Listed listed i) → Inv P ops e rs hN base ι0 h a0 w0 listed a w ι m → Q .normal a w := by
    intro listed a w ι m hall I
    have hend : hAt rs hN m = hN := by
      have h1 : hAt rs hN ops.size = hN := by
        unfold hAt
        rw [List.getElem?_eq_none (by rw [L.len]; exact Nat.le_refl _)]
      exact (L.same ops.size I.cut.1 (Nat.le_refl _) fun k p hk1 hk2 hp hx => by
        have := (I.cut.2 k p hp hx.1 hx.2).1 (hall k hk2)
        omega).symm.trans h1
    have hee : eAt rs eN ops.size = eN := by
      unfold eAt
      rw [List.getElem?_eq_none (by rw [L.len]; exact Nat.le_refl _)]
    obtain ⟨hlen, henv⟩ := L.env A ops.size (Nat.le_refl _)
    rw [hee] at hlen henv
    have hr := I.rel
    have ha := I.agree
    rw [hend] at hr ha
    refine hK a w ι ⟨by rw [hlen]; exact I.len, fun t => ?_⟩ hr ha I.below I.defers
    by_cases hte : t < e.length
    · obtain ⟨k1, k2⟩ := henv t hte
      by_cases hw : ∃ (j : Nat) (p : Oper), ops[j]? = some p ∧ p.dst = some t
      · obtain ⟨j, p, hp, hd⟩ := hw
        have hj := (Array.getElem?_eq_some_iff.1 hp).1
        rw [k1 j p hj hp hd]
        have := I.done t j p hte hp hd (hall j hj)
        rwa [hend] at this
      · rw [k2 fun j p _ hp hd => hw ⟨j, p, hp, hd⟩]
        have := I.left t hte fun j p hp hd => absurd ⟨j, p, hp, hd⟩ hw
        rwa [hend] at this
    · have : eN.getD t .undef = .undef := by
        rw [List.getD_eq_getElem?_getD, List.getElem?_eq_none (by rw [hlen]; exact Nat.le_of_not_lt hte)]
        rfl
      rw [this]
      exact RelV.undef _
  -- if none is ready, all have come up
  have done : ∀ (listed : Array Bool) (a : Act) (w : World) (ι : Map) (m : Nat), Inv P ops e rs hN base ι0 h a0 w0 listed a w ι m → Region.ready .any ops listed = [] → ∀ i, i < ops.size → Listed listed i := by
    intro listed a w ι m I hr i
    induction i using Nat.strongRecOn with
    | _ i ih =>
      intro hi
      rcases Classical.em (Listed listed i) with h1 | h1
      · exact h1
      · exfalso
        have hlt : i < listed.size := by rw [I.size]; exact hi
        have : i ∈ Region.ready .any ops listed := by
          rw [mem_ready]
          refine ⟨?_, ops[i], Array.getElem?_eq_getElem hi, fun x hx hb => ?_⟩
          · unfold Listed at h1
            simp [hlt] at h1 ⊢
            exact h1
          · have hb' := A.back i _ (Array.getElem?_eq_getElem hi) x hx hb
            exact ih x.on hb' (by omega)
        rw [hr] at this
        cases this
  intro fuel
  induction fuel with
  | zero =>
    intro U listed a w ι m hU hin I
    have hnil : U = [] := List.eq_nil_of_length_eq_zero hU
    subst hnil
    have hall : ∀ i, i < ops.size → Listed listed i := fun i hi => by
      rcases Classical.em (Listed listed i) with h1 | h1
      · exact h1
      · exact absurd (hin i hi h1) (by simp)
    refine ⟨?_, fin listed a w ι m hall I⟩
    rcases hr : Region.ready .any ops listed with _ | ⟨i, l⟩
    · rfl
    · exfalso
      have hmem : i ∈ Region.ready .any ops listed := by rw [hr]; simp
      obtain ⟨hun, o, ho, -⟩ := mem_ready.1 hmem
      have hil := (Array.getElem?_eq_some_iff.1 ho).1
      have h1 := hall i hil
      unfold Listed at h1
      have hlt : i < listed.size := by rw [I.size]; exact hil
      simp [hlt] at h1 hun
      rw [h1] at hun
      cases hun
  | succ fuel ih =>
    intro U listed a w ι m hU hin I
    refine ⟨fun hr => fin listed a w ι m (done listed a w ι m I hr) I, fun i hi => ?_⟩
    refine anyOp hcall L A I hi fun a' w' ι' m' I' => ?_
    obtain ⟨hun, o, ho, -⟩ := mem_ready.1 hi
    have hil := (Array.getElem?_eq_some_iff.1 ho).1
    have hlt : i < listed.size := by rw [I.size]; exact hil
    have hiU : i ∈ U := hin i hil (fun h1 => by
      unfold Listed at h1
      simp [hlt] at h1 hun
      rw [h1] at hun
      cases hun)
    refine ih (U.erase i) _ a' w' ι' m' (by rw [List.length_erase_of_mem hiU]; omega) (fun j hj hnj => ?_) I'
    rw [listed_set hlt] at hnj
    have hji : j ≠ i := fun hx => hnj (.inl hx)
    exact (List.mem_erase_of_ne hji).2 (hin j hj (fun hx => hnj (.inr hx)))

theorem runAny_wp (hcall : CallsOk call P) (hmix : P.follows .mixedOrders = true) {Q : Exit → Act → World → Prop} {id : Nat} {r : Env × H} {ι : Map} {a : Act} {w : World}
    (hr : runAny call P ops.toList (floats P ops.toList (waits ops.toList [])) e h = some r) (hok : anyOk P ops.toList (waits ops.toList []) = true) (he : EnvRel ι h e a.tmps) (hrel : Rel ι base h w)
    (hK : ∀ a' w' ι', EnvRel ι' r.2 r.1 a'.tmps → Rel ι' base r.2 w' → Agree ι h ι' r.2 → Below base w w' → a'.defers = a.defers → Q .normal a' w') : (Code.region id ops true).wp P Q a w := by
  obtain ⟨rs, L⟩ := lex_of hr
  refine wp_region_any hmix ?_
  have hnone : ∀ i, ¬ Listed (Array.replicate ops.size false) i := fun i hi => by
    unfold Listed at hi
    by_cases hlt : i < ops.size <;> simp [hlt] at hi
  refine any_wp hcall L (anyOk_ok hok) (ι0 := ι) (a0 := a) (w0 := w) hK ops.size (List.range ops.size) _ a _ ι 0 (by simp) (fun i hi _ => List.mem_range.2 hi) ?_
  refine ⟨by simp, fun i o hi => absurd hi (hnone i), ⟨Nat.zero_le _, fun k o _ _ _ => ⟨fun hx => absurd hx (hnone k), fun hx => by omega⟩⟩, he.1, fun t j o _ _ _ hj => absurd hj (hnone j), fun t ht _ => ?_, fun j o d _ _ hj => absurd hj (hnone j), ?_, ?_, ?_, rfl⟩
  · rw [L.h0]
    exact he.2 t
  · rw [L.h0]
    exact hrel.heap rfl
  · rw [L.h0]
    exact Agree.refl _ _
  · exact (Below.refl base w).drew
end

end Go.Hl
end
section
/-! Hl: what a call leaves behind names what it is noted to name. -/
namespace Go.Hl

mutual
theorem upto_ge {n : Nat} : ∀ {u : V} {r : Nat}, r ∈ V.upto n u → n ≤ r ∧ ∀ b, b ≤ n → r ∈ V.upto b u
  | .ptr c _ _ _, r, h => by
    simp only [V.upto] at h ⊢
    split at h
    · simp at h
    · rename_i hc
      simp only [List.mem_singleton] at h
      subst h
      exact ⟨by omega, fun b hb => by rw [if_neg (by omega)]; simp⟩
  | .sl c _ _ _ _ _, r, h => by
    simp only [V.upto] at h ⊢
    split at h
    · simp at h
    · rename_i hc
      simp only [List.mem_singleton] at h
      subst h
      exact ⟨by omega, fun b hb => by rw [if_neg (by omega)]; simp⟩
  | .fn _ x y, r, h => by
    simp only [V.upto, List.mem_append] at h ⊢
    rcases h with h | h
    · obtain ⟨h1, h2⟩ := uptos_ge h
      exact ⟨h1, fun b hb => .inl (h2 b hb)⟩
    · obtain ⟨h1, h2⟩ := uptos_ge h
      exact ⟨h1, fun b hb => .inr (h2 b hb)⟩
  | .agg l, r, h => by
    simp only [V.upto] at h ⊢
    exact uptos_ge h
  | .tup l, r, h => by
    simp only [V.upto] at h ⊢
    exact uptos_ge h
  | .iface _ x, r, h => by
    simp only [V.upto] at h ⊢
    exact upto_ge h
  | .bool _, _, h | .int _ _, _, h | .str _, _, h | .nilp, _, h | .nils, _, h | .nilf, _, h | .nili, _, h => by simp [V.upto] at h
theorem uptos_ge {n : Nat} : ∀ {l : List V} {r : Nat}, r ∈ V.uptos n l → n ≤ r ∧ ∀ b, b ≤ n → r ∈ V.uptos b l
  | [], _, h => by simp [V.uptos] at h
  | u :: l, r, h => by
    simp only [V.uptos, List.mem_append] at h ⊢
    rcases h with h | h
    · obtain ⟨h1, h2⟩ := upto_ge h
      exact ⟨h1, fun b hb => .inl (h2 b hb)⟩
    · obtain ⟨h1, h2⟩ := uptos_ge h
      exact ⟨h1, fun b hb => .inr (h2 b hb)⟩
end

theorem uptos_mem {n : Nat} : ∀ {l : List V} {u : V} {r : Nat}, u ∈ l → r ∈ V.upto n u → r ∈ V.uptos n l
  | u' :: l, u, r, hu, hr => by
    simp only [V.uptos, List.mem_append]
    rcases List.mem_cons.1 hu with rfl | hu
    · exact .inl hr
    · exact .inr (uptos_mem hu hr)
  | [], _, _, hu, _ => by simp at hu

mutual
theorem under_of_upto {n : Nat} : ∀ {u : V}, V.upto n u = [] → V.under n u = true
  | .ptr c _ _ _, h => by
    simp only [V.upto] at h
    split at h
    · rename_i hc; simpa [V.under] using hc
    · simp at h
  | .sl c _ _ _ _ _, h => by
    simp only [V.upto] at h
    split at h
    · rename_i hc; simpa [V.under] using hc
    · simp at h
  | .fn _ x y, h => by
    simp only [V.upto, List.append_eq_nil_iff] at h
    simp [V.under, unders_of_uptos h.1, unders_of_uptos h.2]
  | .agg l, h => by
    simp only [V.upto] at h
    simp [V.under, unders_of_uptos h]
  | .tup l, h => by
    simp only [V.upto] at h
    simp [V.under, unders_of_uptos h]
  | .iface _ x, h => by
    simp only [V.upto] at h
    simp [V.under, under_of_upto h]
  | .bool _, _ | .int _ _, _ | .str _, _ | .nilp, _ | .nils, _ | .nilf, _ | .nili, _ => by simp [V.under]
theorem unders_of_uptos {n : Nat} : ∀ {l : List V}, V.uptos n l = [] → V.unders n l = true
  | [], _ => by simp [V.unders]
  | u :: l, h => by
    simp only [V.uptos, List.append_eq_nil_iff] at h
    simp [V.unders, under_of_upto h.1, unders_of_uptos h.2]
end

mutual
theorem upto_of_under {n : Nat} : ∀ {u : V}, V.under n u = true → V.upto n u = []
  | .ptr c _ _ _, h => by
    simp only [V.under, decide_eq_true_eq] at h
    simp [V.upto, h]
  | .sl c _ _ _ _ _, h => by
    simp only [V.under, decide_eq_true_eq] at h
    simp [V.upto, h]
  | .fn _ x y, h => by
    simp only [V.under, Bool.and_eq_true] at h
    simp [V.upto, uptos_of_unders h.1, uptos_of_unders h.2]
  | .agg l, h => by
    simp only [V.under] at h
    simp [V.upto, uptos_of_unders h]
  | .tup l, h => by
    simp only [V.under] at h
    simp [V.upto, uptos_of_unders h]
  | .iface _ x, h => by
    simp only [V.under] at h
    simp [V.upto, upto_of_under h]
  | .bool _, _ | .int _ _, _ | .str _, _ | .nilp, _ | .nils, _ | .nilf, _ | .nili, _ => by simp [V.upto]
theorem uptos_of_unders {n : Nat} : ∀ {l : List V}, V.unders n l = true → V.uptos n l = []
  | [], _ => by simp [V.uptos]
  | u :: l, h => by
    simp only [V.unders, Bool.and_eq_true] at h
    simp [V.uptos, upto_of_under h.1, uptos_of_unders h.2]
end

/-- Elder blocks' names of younger ones are noted. -/
def EscOk (n : Nat) (E : List (Nat × Nat)) (h : H) : Prop := ∀ b k, b < n → h.blks[b]? = some k → ∀ u ∈ k.cells, ∀ r ∈ V.upto n u, (b, r) ∈ E ++ h.esc
def Grows (h h' : H) : Prop := h.size ≤ h'.size ∧ ∀ n E, n ≤ h.size → EscOk n E h → EscOk n E h'

theorem Grows.refl (h : H) : Grows h h := ⟨Nat.le_refl _, fun _ _ _ x => x⟩
theorem Grows.trans {a b c : H} (x : Grows a b) (y : Grows b c) : Grows a c := ⟨Nat.le_trans x.1 y.1, fun n E hn he => y.2 n E (Nat.le_trans hn x.1) (x.2 n E hn he)⟩

theorem grows_new (h : H) (cells : List V) : Grows h (h.new cells) := by
  refine ⟨by simp [H.new, H.size], fun n E hn he b k hb hk u hu r hr => ?_⟩
  rcases (H.new_get h cells).1 hk with hk | ⟨rfl, _⟩
  · exact he b k hb hk u hu r hr
  · omega

theorem grows_set {h h' : H} {b : Nat} {k k' : Blk} {vs : List V} (hk : h.blks[b]? = some k) (hb : h'.blks = h.blks.set b k') (hs : h'.esc = h.esc ++ escs b vs) (hc : ∀ u ∈ k'.cells, u ∈ k.cells ∨ u ∈ vs) : Grows h h' := by
  refine ⟨by simp [H.size, hb], fun n E hn he i ki hi hki u hu r hr => ?_⟩
  rw [hb] at hki
  rw [hs, ← List.append_assoc, List.mem_append]
  rcases (set_get _ hk).1 hki with ⟨h1, h2⟩ | ⟨_, hki⟩
  · subst h1 h2
    rcases hc u hu with hu | hu
    · exact .inl (he i k hi hk u hu r hr)
    · right
      obtain ⟨_, h4⟩ := upto_ge hr
      unfold escs
      rw [List.mem_map]
      exact ⟨r, uptos_mem hu (h4 i (by omega)), rfl⟩
  · exact .inl (he i ki hi hki u hu r hr)

theorem grows_write {h h' : H} {b off ver : Nat} {vs : List V} (hw : h.write b off ver vs = some h') : Grows h h' := by
  obtain ⟨k, hk, -, -, -, -, hb, hs⟩ := H.write_some hw
  refine grows_set hk hb hs fun u hu => ?_
  simp only [splice, List.mem_append] at hu
  rcases hu with (hu | hu) | hu
  · exact .inl (List.mem_of_mem_take hu)
  · exact .inr hu
  · exact .inl (List.mem_of_mem_drop hu)
theorem grows_grow {h h' : H} {b ver : Nat} {vs : List V} (hw : h.grow b ver vs = some h') : Grows h h' := by
  obtain ⟨k, hk, -, -, -, hb, hs⟩ := H.grow_some hw
  refine grows_set hk hb hs fun u hu => ?_
  simpa [List.mem_append] using hu

theorem grows_append {h h' : H} {esz m : Nat} {s v : V} {ys : List V} (ha : appendTo h esz s m ys = some (v, h')) : Grows h h' := by
  unfold appendTo at ha
  split at ha
  · split at ha
    · injection ha with ha
      injection ha with _ ha
      subst ha
      exact grows_new _ _
    · cases ha
  · split at ha
    · split at ha
      · injection ha with ha
        injection ha with _ ha
        subst ha
        exact grows_new _ _
      · cases ha
    · cases ha
  · split at ha
    · split at ha
      · split at ha
        · obtain ⟨h1, hg, he⟩ := Option.map_eq_some_iff.1 ha
          injection he with _ he
          rw [← he]
          exact grows_grow hg
        · split at ha
          · obtain ⟨h1, hg, he⟩ := Option.map_eq_some_iff.1 ha
            injection he with _ he
            rw [← he]
            exact grows_write hg
          · cases ha
      · cases ha
    · cases ha
  · cases ha

theorem grows_act {P : Program} {op : Op} {ρ : Operand → V} {h h' : H} {v : V} (ha : actOp P op ρ h = some (v, h')) : Grows h h' := by
  unfold actOp at ha
  repeat' split at ha
  all_goals first
    | (cases ha; done)
    | (injection ha with ha; injection ha with _ ha; subst ha; first | exact grows_new _ _ | exact Grows.refl _)
    | exact grows_append ha
    | (obtain ⟨h1, hg, he⟩ := Option.map_eq_some_iff.1 ha
       injection he with _ he
       rw [← he]
       exact grows_write hg)

theorem grows_step {call : CallT} {P : Program} (hcall : ∀ f args h v h', call f args h = some (v, h') → Grows h h') {o : Oper} {ρ : Operand → V} {h h' : H} {v : V} (hs : step call P o ρ h = some (v, h')) : Grows h h' := by
  unfold step at hs
  split at hs
  · cases hp : pureOp P o ρ with
    | none => simp [hp] at hs
    | some u =>
      simp only [hp, Option.map_some, Option.some.injEq, Prod.mk.injEq] at hs
      rw [← hs.2]
      exact Grows.refl _
  · cases hp : readOp P o.op ρ h with
    | none => simp [hp] at hs
    | some u =>
      simp only [hp, Option.map_some, Option.some.injEq, Prod.mk.injEq] at hs
      rw [← hs.2]
      exact Grows.refl _
  · exact grows_act hs
  · unfold callOp at hs
    split at hs
    · split at hs
      · exact hcall _ _ _ _ _ hs
      · cases hs
    · cases hs
  · cases hs

theorem grows_runOps {call : CallT} {P : Program} (hcall : ∀ f args h v h', call f args h = some (v, h') → Grows h h') {ops : List Oper} : ∀ (n : Nat) (ctx : Option (Nat × Bool)) (l : List Oper) (e : Env) (h : H) (e' : Env) (h' : H), runOps call P ops n ctx l e h = some (e', h') → Grows h h'
  | n, ctx, [], e, h, e', h', hr => by
    have : some (e, h) = some (e', h') := by cases n <;> simpa [runOps] using hr
    injection this with this
    injection this with _ this
    rw [← this]
    exact Grows.refl _
  | 0, _, _ :: _, _, _, _, _, hr => by simp [runOps] at hr
  | n + 1, ctx, o :: l, e, h, e', h', hr => by
    unfold runOps at hr
    split at hr
    · cases hs : step call P o (ev e) h with
      | none => simp [hs] at hr
      | some r =>
        simp only [hs, Option.bind_some] at hr
        exact (grows_step hcall hs).trans (grows_runOps hcall n ctx l _ _ _ _ hr)
    · cases hgd : o.guard with
      | none => simp [hgd] at hr
      | some qw =>
        obtain ⟨q, w⟩ := qw
        simp only [hgd] at hr
        cases hq : dstOf ops q with
        | none => simp [hq] at hr
        | some c =>
          simp only [hq] at hr
          cases hb : e.getD c .undef with
          | bool b =>
            rw [hb] at hr
            simp only at hr
            cases hdr : (o :: l).drop (ahead c (o :: l)) with
            | nil => simp [hdr] at hr
            | cons pk rest' =>
              obtain ⟨x, y, hpk⟩ := ahead_spec c (o :: l) pk rest' hdr
              obtain ⟨pdst, pop, ptype, ppos, pafter, pguard⟩ := pk
              simp only at hpk
              subst hpk
              simp only [hdr] at hr
              cases hcnd : cond (b == w) ((runOps call P ops n (some (q, w)) ((o :: l).take (ahead c (o :: l))) e h).map fun r => (ev r.1 (cond w x y), r.2)) (some (ev (forget ((o :: l).take (ahead c (o :: l))) e) (cond w y x), h)) with
              | none => simp [hcnd] at hr
              | some r =>
                simp only [hcnd, Option.bind_some] at hr
                have h1 : Grows h r.2 := by
                  cases hbw : (b == w) with
                  | true =>
                    rw [hbw] at hcnd
                    simp only [cond_true] at hcnd
                    cases hg' : runOps call P ops n (some (q, w)) ((o :: l).take (ahead c (o :: l))) e h with
                    | none => simp [hg'] at hcnd
                    | some r' =>
                      simp only [hg', Option.map_some, Option.some.injEq] at hcnd
                      rw [← hcnd]
                      exact grows_runOps hcall n _ _ _ _ r'.1 r'.2 hg'
                  | false =>
                    rw [hbw] at hcnd
                    simp only [cond_false, Option.some.injEq] at hcnd
                    rw [← hcnd]
                    exact Grows.refl _
                exact h1.trans (grows_runOps hcall n ctx _ _ _ _ _ hr)
          | _ => rw [hb] at hr; simp at hr

theorem grows_lex {call : CallT} {P : Program} (hcall : ∀ f args h v h', call f args h = some (v, h') → Grows h h') {ops : List Oper} : ∀ (l : List Oper) (sk : List Bool) (e : Env) (h : H) (x : List Rec × Env × H), lexRun call P ops l sk e h = some x → Grows h x.2.2
  | [], sk, e, h, x, hr => by
    simp only [lexRun, Option.some.injEq] at hr
    rw [← hr]
    exact Grows.refl _
  | o :: l, sk, e, h, x, hr => by
    simp only [lexRun] at hr
    cases hs : skipOf ops o sk e with
    | none => simp [hs] at hr
    | some s =>
      simp only [hs, Option.bind_some] at hr
      cases hv : (cond s (some (.undef, h)) (step call P o (ev e) h)) with
      | none => simp [hv] at hr
      | some r =>
        simp only [hv, Option.bind_some] at hr
        cases hl : lexRun call P ops l (sk ++ [s]) (put e o.dst r.1) r.2 with
        | none => simp [hl] at hr
        | some y =>
          simp only [hl, Option.bind_some, Option.some.injEq] at hr
          have h1 : Grows h r.2 := by
            cases s with
            | true =>
              simp only [cond_true, Option.some.injEq] at hv
              rw [← hv]
              exact Grows.refl _
            | false => exact grows_step hcall (v := r.1) (h' := r.2) hv
          have h2 := grows_lex hcall l _ _ _ _ hl
          rw [← hr]
          exact h1.trans h2

theorem grows_exec {call : CallT} {P : Program} (hcall : ∀ f args h v h', call f args h = some (v, h') → Grows h h') {k : Nat} : ∀ (c : Code) (e : Env) (h : H) (x : Ex) (e' : Env) (h' : H), exec call P k c e h = some (x, e', h') → Grows h h'
  | .region _ ops false, e, h, x, e', h', hr => by
    simp only [exec] at hr
    cases hs : runOps call P ops.toList ops.size none ops.toList e h with
    | none => simp [hs] at hr
    | some r =>
      simp only [hs, Option.map_some, Option.some.injEq, Prod.mk.injEq] at hr
      rw [← hr.2.2]
      exact grows_runOps hcall _ _ _ _ _ r.1 r.2 hs
  | .region _ ops true, e, h, x, e', h', hr => by
    simp only [exec] at hr
    cases hs : runAny call P ops.toList (floats P ops.toList (waits ops.toList [])) e h with
    | none => simp [hs] at hr
    | some r =>
      simp only [hs, Option.map_some, Option.some.injEq, Prod.mk.injEq] at hr
      rw [← hr.2.2]
      unfold runAny at hs
      cases hl : lexRun call P ops.toList ops.toList [] e h with
      | none => simp [hl] at hs
      | some y =>
        simp only [hl, Option.bind_some] at hs
        split at hs
        · injection hs with hs
          rw [← hs]
          exact grows_lex hcall _ _ _ _ _ hl
        · cases hs
  | .seq a b, e, h, x, e', h', hr => by
    simp only [exec] at hr
    split at hr
    · rename_i e1 h1 ha
      exact (grows_exec hcall a _ _ _ _ _ ha).trans (grows_exec hcall b _ _ _ _ _ hr)
    · exact grows_exec hcall a _ _ _ _ _ hr
  | .cond c a b, e, h, x, e', h', hr => by
    simp only [exec] at hr
    split at hr
    · rename_i t _
      cases t
      · exact grows_exec hcall b _ _ _ _ _ hr
      · exact grows_exec hcall a _ _ _ _ _ hr
    · cases hr
  | .block id b, e, h, x, e', h', hr => by
    simp only [exec] at hr
    split at hr
    · rename_i j e1 h1 hb
      split at hr
      · injection hr with hr
        injection hr with _ hr
        injection hr with _ hr
        rw [← hr]
        exact grows_exec hcall b _ _ _ _ _ hb
      · injection hr with hr
        injection hr with _ hr
        injection hr with _ hr
        rw [← hr]
        exact grows_exec hcall b _ _ _ _ _ hb
    · exact grows_exec hcall b _ _ _ _ _ hr
  | .loop b, e, h, x, e', h', hr => by
    simp only [exec] at hr
    have key : ∀ n e h, iter (exec call P k b) n e h = some (x, e', h') → Grows h h' := by
      intro n
      induction n with
      | zero => intro e h hi; simp [iter] at hi
      | succ n ih =>
        intro e h hi
        simp only [iter] at hi
        split at hi
        · rename_i e1 h1 hb
          exact (grows_exec hcall b _ _ _ _ _ hb).trans (ih _ _ hi)
        · exact grows_exec hcall b _ _ _ _ _ hi
    exact key k e h hr
  | .skip, e, h, x, e', h', hr | .exit _, e, h, x, e', h', hr | .ret, e, h, x, e', h', hr => by
    simp only [exec, Option.some.injEq, Prod.mk.injEq] at hr
    rw [← hr.2.2]
    exact Grows.refl _
  | .rangeFunc _ _ _ _, _, _, _, _, _, hr | .scope _, _, _, _, _, _, hr | .label _, _, _, _, _, _, hr | .goto _, _, _, _, _, _, hr | .refuse _, _, _, _, _, _, hr => by simp [exec] at hr

theorem grows_leave {h h0 h1 : H} {v : V} (h0b : h0.blks = h.blks) (h0e : h0.esc = []) (hg : Grows h0 h1) : Grows h (leave h h1 v) := by
  have hsz : h.size ≤ h1.size := by have := hg.1; simp only [H.size, h0b] at this ⊢; exact this
  have key : ∀ n E, n ≤ h.size → EscOk n E h → EscOk n (E ++ h.esc) h1 := fun n E hn he => by
    refine hg.2 n (E ++ h.esc) (by simpa [H.size, h0b] using hn) fun b k hb hk u hu r hr => ?_
    rw [h0e, List.append_nil]
    exact he b k hb (h0b ▸ hk) u hu r hr
  unfold leave
  split
  · refine ⟨by simp only [H.size, List.length_take] at hsz ⊢; omega, fun n E hn he b k hb hk u hu r hr => ?_⟩
    simp only [List.getElem?_take] at hk
    split at hk
    · have := key n E hn he b k hb hk u hu r hr
      simp only
      rw [← List.append_assoc, List.mem_append]
      rcases List.mem_append.1 this with h2 | h2
      · exact .inl h2
      · right
        rw [List.mem_filter]
        exact ⟨h2, by simp; omega⟩
    · cases hk
  · refine ⟨hsz, fun n E hn he b k hb hk u hu r hr => ?_⟩
    have := key n E hn he b k hb hk u hu r hr
    simp only
    rwa [← List.append_assoc]

theorem grows_call {P : Program} {C : CallT} (hC : ∀ f args h v h', C f args h = some (v, h') → Grows h h') : ∀ k f args h v h', callF P C k f args h = some (v, h') → Grows h h'
  | 0, _, _, _, _, _, hr => by simp [callF] at hr
  | k + 1, f, args, h, v, h', hr => by
    simp only [callF] at hr
    split at hr
    · rename_i fn hf
      split at hr
      · split at hr
        · rename_i c hc
          cases he : exec (callF P C k) P k c (enter fn args) { blks := h.blks, esc := [] } with
          | none => simp [he, finish] at hr
          | some x =>
            obtain ⟨x, e', h1⟩ := x
            rw [he] at hr
            have hg := grows_exec (grows_call hC k) c _ _ _ _ _ he
            cases x with
            | exit id => simp [finish] at hr
            | normal =>
              simp only [finish] at hr
              cases hres : resultsOf P e' h1 fn.results.toList with
              | none => simp [hres] at hr
              | some vs =>
                simp only [hres, Option.map_some, Option.some.injEq, Prod.mk.injEq] at hr
                rw [← hr.2]
                exact grows_leave (h0 := { blks := h.blks, esc := [] }) rfl rfl hg
            | ret =>
              simp only [finish] at hr
              cases hres : resultsOf P e' h1 fn.results.toList with
              | none => simp [hres] at hr
              | some vs =>
                simp only [hres, Option.map_some, Option.some.injEq, Prod.mk.injEq] at hr
                rw [← hr.2]
                exact grows_leave (h0 := { blks := h.blks, esc := [] }) rfl rfl hg
        · cases hr
      · exact hC _ _ _ _ _ hr
    · cases hr

end Go.Hl
end
section
/-! Hl: code and calls. What Hl says of a call, the program's call does. -/
namespace Go.Hl
open Go.RowKit

def exitOf : Ex → Exit
  | .normal => .normal
  | .exit id => .exit id
  | .ret => .ret

section
variable {P : Program} {call : CallT} {base : Nat}

/-- Code. -/
theorem exec_wp (hcall : CallsOk call P) (hmix : P.follows .mixedOrders = true) {k : Nat} : ∀ (c : Code) (Q : Exit → Act → World → Prop) (ι : Map) (e : Env) (h : H) (x : Ex) (e' : Env) (h' : H) (a : Act) (w : World), exec call P k c e h = some (x, e', h') → codeOk P c = true →
    EnvRel ι h e a.tmps → Rel ι base h w →
    (∀ a' w' ι', EnvRel ι' h' e' a'.tmps → Rel ι' base h' w' → Agree ι h ι' h' → Below base w w' → a'.defers = a.defers → Q (exitOf x) a' w') → c.wp P Q a w
  | .region id ops false, Q, ι, e, h, x, e', h', a, w, hr, hok, he, hrel, hK => by
    simp only [exec] at hr
    cases hs : runOps call P ops.toList ops.size none ops.toList e h with
    | none => simp [hs] at hr
    | some r =>
      simp only [hs, Option.map_some, Option.some.injEq, Prod.mk.injEq] at hr
      obtain ⟨rfl, rfl, rfl⟩ := hr
      refine wp_region_list ?_
      have := runOps_wp (P := P) (base := base) (Q := Q) hcall ops.size none 0 ops.toList [] ι e h r.1 r.2 a w hs (by simpa [codeOk] using hok) (fun m _ => by simp) (fun q w hx => by cases hx) (fun q w c hx => by cases hx) he hrel
        (fun a' w' ι' k1 k2 k3 k4 k5 _ _ => hK a' w' ι' k1 k2 k3 k4 k5)
      simpa using this
  | .region id ops true, Q, ι, e, h, x, e', h', a, w, hr, hok, he, hrel, hK => by
    simp only [exec] at hr
    cases hs : runAny call P ops.toList (floats P ops.toList (waits ops.toList [])) e h with
    | none => simp [hs] at hr
    | some r =>
      simp only [hs, Option.map_some, Option.some.injEq, Prod.mk.injEq] at hr
      obtain ⟨rfl, rfl, rfl⟩ := hr
      exact runAny_wp hcall hmix hs (by simpa [codeOk] using hok) he hrel hK
  | .seq c d, Q, ι, e, h, x, e', h', a, w, hr, hok, he, hrel, hK => by
    simp only [codeOk, Bool.and_eq_true] at hok
    simp only [exec] at hr
    refine wp_seq ?_
    split at hr
    · rename_i e1 h1 hc
      refine exec_wp hcall hmix c _ ι e h .normal e1 h1 a w hc hok.1 he hrel fun a' w' ι' k1 k2 k3 k4 k5 => ?_
      refine exec_wp hcall hmix d Q ι' e1 h1 x e' h' a' w' hr hok.2 k1 k2 fun a'' w'' ι'' j1 j2 j3 j4 j5 => ?_
      exact hK a'' w'' ι'' j1 j2 (k3.trans j3) (k4.trans j4) (j5.trans k5)
    · rename_i hne
      refine exec_wp hcall hmix c _ ι e h x e' h' a w hr hok.1 he hrel fun a' w' ι' k1 k2 k3 k4 k5 => ?_
      cases x with
      | normal => exact absurd hr (hne e' h')
      | exit id => exact hK a' w' ι' k1 k2 k3 k4 k5
      | ret => exact hK a' w' ι' k1 k2 k3 k4 k5
  | .cond c t f, Q, ι, e, h, x, e', h', a, w, hr, hok, he, hrel, hK => by
    simp only [codeOk, Bool.and_eq_true] at hok
    simp only [exec] at hr
    split at hr
    · rename_i b hb
      have hv := eval_rel he c
      rw [hb] at hv
      simp only [RelV] at hv
      refine wp_cond hv ?_
      cases b
      · exact exec_wp hcall hmix f Q ι e h x e' h' a w hr hok.2 he hrel hK
      · exact exec_wp hcall hmix t Q ι e h x e' h' a w hr hok.1 he hrel hK
    · cases hr
  | .block id c, Q, ι, e, h, x, e', h', a, w, hr, hok, he, hrel, hK => by
    simp only [codeOk] at hok
    simp only [exec] at hr
    refine wp_block ?_
    split at hr
    · rename_i j e1 h1 hc
      refine exec_wp hcall hmix c _ ι e h (.exit j) e1 h1 a w hc hok he hrel fun a' w' ι' k1 k2 k3 k4 k5 => ?_
      simp only [exitOf, Exit.inBlock]
      split at hr
      · rename_i hj
        rw [if_pos hj]
        injection hr with hr
        injection hr with h1 hr
        injection hr with h2 hr
        subst h1 h2 hr
        exact hK a' w' ι' k1 k2 k3 k4 k5
      · rename_i hj
        rw [if_neg hj]
        injection hr with hr
        injection hr with h1 hr
        injection hr with h2 hr
        subst h1 h2 hr
        exact hK a' w' ι' k1 k2 k3 k4 k5
    · rename_i hne
      refine exec_wp hcall hmix c _ ι e h x e' h' a w hr hok he hrel fun a' w' ι' k1 k2 k3 k4 k5 => ?_
      cases x with
      | normal => exact hK a' w' ι' k1 k2 k3 k4 k5
      | exit id => exact absurd hr (hne id e' h')
      | ret => exact hK a' w' ι' k1 k2 k3 k4 k5
  | .loop c, Q, ι, e, h, x, e', h', a, w, hr, hok, he, hrel, hK => by
    simp only [codeOk] at hok
    simp only [exec] at hr
    have key : ∀ n ι e h a w, iter (exec call P k c) n e h = some (x, e', h') → EnvRel ι h e a.tmps → Rel ι base h w →
        (∀ a' w' ι', EnvRel ι' h' e' a'.tmps → Rel ι' base h' w' → Agree ι h ι' h' → Below base w w' → a'.defers = a.defers → Q (exitOf x) a' w') → Code.rounds P c Q n a w := by
      intro n
      induction n with
      | zero => intro ι e h a w hi; simp [iter] at hi
      | succ n ih =>
        intro ι e h a w hi he hrel hK
        rw [rounds_succ]
        simp only [iter] at hi
        split at hi
        · rename_i e1 h1 hc
          refine exec_wp hcall hmix c _ ι e h .normal e1 h1 a w hc hok he hrel fun a' w' ι' k1 k2 k3 k4 k5 => ?_
          exact ih ι' e1 h1 a' w' hi k1 k2 fun a'' w'' ι'' j1 j2 j3 j4 j5 => hK a'' w'' ι'' j1 j2 (k3.trans j3) (k4.trans j4) (j5.trans k5)
        · rename_i hne
          refine exec_wp hcall hmix c _ ι e h x e' h' a w hi hok he hrel fun a' w' ι' k1 k2 k3 k4 k5 => ?_
          cases x with
          | normal => exact absurd hi (hne e' h')
          | exit id => exact hK a' w' ι' k1 k2 k3 k4 k5
          | ret => exact hK a' w' ι' k1 k2 k3 k4 k5
    exact wp_loop_rounds k (key k ι e h a w hr he hrel hK)
  | .skip, Q, ι, e, h, x, e', h', a, w, hr, hok, he, hrel, hK => by
    simp only [exec, Option.some.injEq, Prod.mk.injEq] at hr
    obtain ⟨rfl, rfl, rfl⟩ := hr
    exact wp_skip (hK a w ι he hrel (Agree.refl _ _) (Below.refl _ _) rfl)
  | .exit id, Q, ι, e, h, x, e', h', a, w, hr, hok, he, hrel, hK => by
    simp only [exec, Option.some.injEq, Prod.mk.injEq] at hr
    obtain ⟨rfl, rfl, rfl⟩ := hr
    exact wp_exit (hK a w ι he hrel (Agree.refl _ _) (Below.refl _ _) rfl)
  | .ret, Q, ι, e, h, x, e', h', a, w, hr, hok, he, hrel, hK => by
    simp only [exec, Option.some.injEq, Prod.mk.injEq] at hr
    obtain ⟨rfl, rfl, rfl⟩ := hr
    exact wp_ret (hK a w ι he hrel (Agree.refl _ _) (Below.refl _ _) rfl)
  | .rangeFunc _ _ _ _, _, _, _, _, _, _, _, _, _, hr, _, _, _, _ | .scope _, _, _, _, _, _, _, _, _, _, hr, _, _, _, _ | .label _, _, _, _, _, _, _, _, _, _, hr, _, _, _, _ | .goto _, _, _, _, _, _, _, _, _, _, hr, _, _, _, _ | .refuse _, _, _, _, _, _, _, _, _, _, hr, _, _, _, _ => by simp [exec] at hr

/-- What is handed back. -/
theorem results_rel {ι : Map} {h : H} {w : World} {e : Env} {a : Act} (he : EnvRel ι h e a.tmps) (hrel : Rel ι base h w) : ∀ (l : List ResultVar) (vs : List V), resultsOf P e h l = some vs →
    ∃ vs' : List Value, (l.mapM fun r => (match r with
      | .tmp t => pure (a.tmps.getD t Go.undef)
      | .cell x t => do loadVar t (← asAddr (a.tmps.getD x Go.undef)) : Sem Value)).run P w = .ok vs' w ∧ RelVs ι h vs vs'
  | [], vs, hr => by
    simp only [resultsOf, Option.some.injEq] at hr
    subst hr
    exact ⟨[], rfl, by simp [RelVs]⟩
  | r :: l, vs, hr => by
    simp only [resultsOf] at hr
    split at hr
    · rename_i v hv
      obtain ⟨us, hu, he'⟩ := Option.map_eq_some_iff.1 hr
      subst he'
      obtain ⟨vs', h1, h2⟩ := results_rel he hrel l us hu
      have one : ∃ v', ((match r with
          | .tmp t => pure (a.tmps.getD t Go.undef)
          | .cell x t => do loadVar t (← asAddr (a.tmps.getD x Go.undef)) : Sem Value)).run P w = .ok v' w ∧ RelV ι h v v' := by
        cases r with
        | tmp t =>
          simp only [resultOf, Option.some.injEq] at hv
          subst hv
          exact ⟨_, rfl, he.2 t⟩
        | cell x t =>
          simp only [resultOf] at hv
          obtain ⟨v', g1, g2⟩ := sim_readVar hv hrel (he.2 x)
          refine ⟨v', ?_, g2⟩
          have hx := he.2 x
          unfold readVar at hv
          split at hv
          · split at hv
            · rename_i b off ver z hb
              rw [hb] at hx
              simp only [RelV] at hx
              obtain ⟨_, _, _, hx⟩ := hx
              show (do loadVar t (← asAddr (a.tmps.getD x Go.undef)) : Sem Value).run P w = _
              rw [hx] at g1 ⊢
              unfold Instr.loadAt at g1
              simp only [Instr.sureAddr, Sem.run_bind, Sem.run_pure, Result.andThen_ok] at g1
              simp only [asAddr, Sem.run_bind, Sem.run_pure, Result.andThen_ok]
              exact g1
            · cases hv
          · cases hv
      obtain ⟨v', h3, h4⟩ := one
      refine ⟨v' :: vs', ?_, by simp only [RelVs]; exact ⟨h4, h2⟩⟩
      simp only [List.mapM_cons, Sem.run_bind, h3, h1, Result.andThen_ok, Sem.run_pure]
    · cases hr

theorem results_ok {ι : Map} {h : H} {w : World} {e : Env} {a : Act} {fn : Func} (he : EnvRel ι h e a.tmps) (hrel : Rel ι base h w) {vs : List V} (hr : resultsOf P e h fn.results.toList = some vs) :
    ∃ v', (results fn a.tmps).run P w = .ok v' w ∧ RelV ι h (tupOf vs) v' := by
  obtain ⟨vs', h1, h2⟩ := results_rel (a := a) he hrel _ _ hr
  unfold results
  rw [Array.mapM_eq_mapM_toList]
  simp only [Sem.run_bind, Sem.run_map]
  refine ⟨if h : vs'.toArray.size = 1 then vs'.toArray[0] else .tuple vs'.toArray, ?_, ?_⟩
  · refine (congrArg (fun r : Result (List Value) => (r.andThen fun a w' => Result.ok a.toArray w').andThen fun a w' => Result.ok (if h : a.size = 1 then a[0] else Value.tuple a) w') h1).trans ?_
    rfl
  · match vs, vs', h2 with
    | [], [], _ => simp [tupOf, RelV]
    | [u], [v], h2 =>
      simp only [RelVs] at h2
      simpa [tupOf] using h2.1
    | u :: u' :: l, v :: v' :: m, h2 =>
      simp only [tupOf, RelV]
      right
      exact ⟨_, by simp, h2⟩
    | [], _ :: _, h2 => simp [RelVs] at h2
    | _ :: _, [], h2 => simp [RelVs] at h2
    | [_], _ :: _ :: _, h2 => simp [RelVs] at h2
    | _ :: _ :: _, [_], h2 => simp [RelVs] at h2
end

end Go.Hl
end
section
/-! Hl: calls. -/
namespace Go.Hl
open Go.RowKit

theorem replicate_undef (n : Nat) (t : Nat) : (List.replicate n V.undef).getD t .undef = .undef := by
  rw [List.getD_eq_getElem?_getD, List.getElem?_replicate]
  split <;> rfl

theorem enter_rel {ι : Map} {h : H} {fn : Func} {args : List V} {args' : List Value} (hr : RelVs ι h args args') :
    EnvRel ι h (enter fn args) (args'.toArray ++ Array.replicate (fn.ntmps - args'.toArray.size) Go.undef) := by
  have hl := hr.length
  refine ⟨by simp [enter, hl], fun t => ?_⟩
  unfold enter
  rw [List.getD_eq_getElem?_getD, Array.getD_eq_getD_getElem?]
  by_cases ht : t < args.length
  · obtain ⟨v, hv, hrv⟩ := hr.get (List.getElem?_eq_getElem ht)
    rw [List.getElem?_append_left ht, List.getElem?_eq_getElem ht]
    rw [Array.getElem?_append_left (by simp; omega)]
    simp only [List.getElem?_toArray, hv, Option.getD_some]
    exact hrv
  · rw [List.getElem?_append_right (by omega), List.getElem?_replicate]
    have : ((if t - args.length < fn.ntmps - args.length then some V.undef else none).getD V.undef) = V.undef := by split <;> rfl
    rw [this]
    simp [RelV]

/-- What is given up is named by nothing. -/
theorem leave_rel {ι : Map} {base : Nat} {h h0 h1 : H} {v : V} {v' : Value} {ι0 : Map} {w w0 : World} (hrel0 : Rel ι0 base h w0) (h0b : h0.blks = h.blks) (_h0e : h0.esc = []) (hg : Grows h0 h1) (hr : Rel ι base h1 w) (hv : RelV ι h1 v v')
    (ha : Agree ι0 h ι h1) : Rel ι base (leave h h1 v) w ∧ RelV ι (leave h h1 v) v v' ∧ Agree ι0 h ι (leave h h1 v) := by
  unfold leave
  split
  · rename_i hc
    simp only [Bool.and_eq_true, List.all_eq_true, Bool.or_eq_true, decide_eq_true_eq] at hc
    obtain ⟨hvu, hesc⟩ := hc
    have hsz : h.size ≤ h1.size := by have := hg.1; simp only [H.size, h0b] at this ⊢; exact this
    have he0 : EscOk h.size [] h0 := fun b k _ hk u hu r hr' => by
      rw [h0b] at hk
      rw [upto_of_under (hrel0.wf b k hk u hu)] at hr'
      simp at hr'
    have he1 := hg.2 h.size [] (by simp [H.size, h0b]) he0
    have hun : ∀ b k, b < h.size → h1.blks[b]? = some k → ∀ u ∈ k.cells, V.under h.size u = true := fun b k hb hk u hu => by
      refine under_of_upto ?_
      cases hup : V.upto h.size u with
      | nil => rfl
      | cons r l =>
        have hr' : r ∈ V.upto h.size u := by rw [hup]; simp
        have h2 := he1 b k hb hk u hu r hr'
        simp only [List.nil_append] at h2
        have h3 := (upto_ge hr').1
        rcases hesc _ h2 with h4 | h4 <;> simp only at h4 <;> omega
    have hag : ∀ b, b < h.size → AgreeAt ι h1 ι ⟨h1.blks.take h.size, h.esc ++ h1.esc.filter fun x => decide (x.1 < h.size)⟩ b := fun b hb k hk =>
      ⟨⟨k, by simp only [List.getElem?_take, if_pos hb]; exact hk, Nat.le_refl _, rfl⟩, fun _ _ => rfl⟩
    have hget : ∀ {b : Nat} {k : Blk}, (h1.blks.take h.size)[b]? = some k → b < h.size ∧ h1.blks[b]? = some k := fun {b k} hk => by
      rw [List.getElem?_take] at hk
      split at hk
      · rename_i hb; exact ⟨hb, hk⟩
      · cases hk
    refine ⟨⟨fun b k hk => ?_, fun b b' k k' hk hk' => hr.disj b b' k k' (hget hk).2 (hget hk').2, hr.base, fun b k hk u hu => ?_⟩, hv.agree hag hvu, fun b k hk => ?_⟩
    · obtain ⟨hb, hk⟩ := hget hk
      obtain ⟨h1', h2, h3, h4, h5, h6, h7⟩ := hr.blk b k hk
      refine ⟨h1', h2, h3, h4, h5, h6, fun g hg hg' => ?_⟩
      obtain ⟨c, e, fz, hc, r, hj⟩ := h7 g hg hg'
      refine ⟨c, e, fz, hc, r, fun j h1 h2 => ?_⟩
      obtain ⟨u, v, a1, a2, a3⟩ := hj j h1 h2
      exact ⟨u, v, a1, a2, a3.agree hag (hun b k hb hk u (List.mem_of_getElem? a1))⟩
    · obtain ⟨hb, hk⟩ := hget hk
      have := hun b k hb hk u hu
      have hs : (H.size ⟨h1.blks.take h.size, h.esc ++ h1.esc.filter fun x => decide (x.1 < h.size)⟩) = h.size := by
        simp only [H.size, List.length_take] at hsz ⊢
        omega
      rw [hs]
      exact this
    · obtain ⟨⟨k', hk', hgk, hro⟩, hi⟩ := ha b k hk
      have hb : b < h.size := H.lt_size hk
      exact ⟨⟨k', by simp only [List.getElem?_take, if_pos hb]; exact hk', hgk, hro⟩, hi⟩
  · refine ⟨hr.blks rfl, RelV.step (h := h1) (Agree.esc (h := h1) _) hv, fun b k hk => ha b k hk⟩

/-- Calls. -/
theorem callF_ok {P : Program} {C : CallT} (hmix : P.follows .mixedOrders = true) (hC : CallsOk C P) (hG : ∀ f args h v h', C f args h = some (v, h') → Grows h h') : ∀ k, CallsOk (callF P C k) P
  | 0 => fun f args h v h' hc => by simp [callF] at hc
  | k + 1 => fun f args h v h' hc => by
    simp only [callF] at hc
    split at hc
    · rename_i fn hf
      split at hc
      · rename_i hok
        unfold fnOk at hok
        split at hc
        · rename_i c hb
          rw [hb] at hok
          simp only [Bool.and_eq_true, bne_iff_ne, ne_eq] at hok
          refine ⟨⟨fn, hf, by simpa using hok.1, by simp [hb]⟩, fun ι base w args' hargs hrel => ?_⟩
          refine calls_of_wp hf hb ?_
          cases he : exec (callF P C k) P k c (enter fn args) { blks := h.blks, esc := [] } with
          | none => simp [he, finish] at hc
          | some x =>
            obtain ⟨x, e', h1⟩ := x
            rw [he] at hc
            have hg := grows_exec (grows_call hG k) c _ _ _ _ _ he
            have ag0 : Agree ι h ι { blks := h.blks, esc := [] } := fun b k hk => ⟨⟨k, hk, Nat.le_refl _, rfl⟩, fun _ _ => rfl⟩
            have hrel0 : Rel ι base { blks := h.blks, esc := [] } w := hrel.blks rfl
            have fin : ∀ (vs : List V) (w' : World) (ι' : Map) (a' : Act), resultsOf P e' h1 fn.results.toList = some vs → (tupOf vs, leave h h1 (tupOf vs)) = (v, h') → EnvRel ι' h1 e' a'.tmps → Rel ι' base h1 w' → Agree ι { blks := h.blks, esc := [] } ι' h1 → Below base w w' →
                ∃ v', (results fn a'.tmps).run P w' = .ok v' w' ∧ ∃ v'' ι', Ending.returned v' = .returned v'' ∧ RelV ι' h' v v'' ∧ Rel ι' base h' w' ∧ Agree ι h ι' h' ∧ Below base w w' := fun vs w' ι' a' hres hvh h1e h2 h3 h4 => by
              injection hvh with hv hh
              obtain ⟨v', r1, r2⟩ := results_ok h1e h2 hres
              have hl := leave_rel (h0 := { blks := h.blks, esc := [] }) hrel rfl rfl hg h2 r2 (ag0.trans h3)
              rw [hv] at hh hl
              rw [hh] at hl
              exact ⟨v', r1, v', ι', rfl, hl.2.1, hl.1, hl.2.2, h4⟩
            refine exec_wp (callF_ok hmix hC hG k) hmix c _ ι _ _ x e' h1 _ w he hok.2 ((enter_rel hargs).step ag0) hrel0 fun a' w' ι' k1 k2 k3 k4 k5 => ?_
            cases x with
            | exit id => simp [finish] at hc
            | normal =>
              simp only [finish] at hc
              cases hres : resultsOf P e' h1 fn.results.toList with
              | none => simp [hres] at hc
              | some vs =>
                simp only [hres, Option.map_some, Option.some.injEq] at hc
                exact ⟨k5, fin vs w' ι' a' hres hc k1 k2 k3 k4⟩
            | ret =>
              simp only [finish] at hc
              cases hres : resultsOf P e' h1 fn.results.toList with
              | none => simp [hres] at hc
              | some vs =>
                simp only [hres, Option.map_some, Option.some.injEq] at hc
                exact ⟨k5, fin vs w' ι' a' hres hc k1 k2 k3 k4⟩
        · cases hc
      · exact hC f args h v h' hc
    · cases hc

end Go.Hl
end
section
/-! Hl: calls without a bound on their depth or their rounds. -/
namespace Go.Hl

/-- It holds by finitely many calls. -/
def Uses (call : CallT) (Φ : CallT → Prop) : Prop :=
  ∃ l : List (FuncId × List V × H × V × H), (∀ x ∈ l, call x.1 x.2.1 x.2.2.1 = some x.2.2.2) ∧ ∀ c', (∀ x ∈ l, c' x.1 x.2.1 x.2.2.1 = some x.2.2.2) → Φ c'

theorem Uses.none {call : CallT} {Φ : CallT → Prop} (h : ∀ c, Φ c) : Uses call Φ := ⟨[], by simp, fun c _ => h c⟩
theorem Uses.map {call : CallT} {Φ Ψ : CallT → Prop} (a : Uses call Φ) (h : ∀ c, Φ c → Ψ c) : Uses call Ψ := by
  obtain ⟨l, h1, h2⟩ := a
  exact ⟨l, h1, fun c hc => h c (h2 c hc)⟩
theorem Uses.and {call : CallT} {Φ Ψ X : CallT → Prop} (a : Uses call Φ) (b : Uses call Ψ) (h : ∀ c, Φ c → Ψ c → X c) : Uses call X := by
  obtain ⟨l, h1, h2⟩ := a
  obtain ⟨m, h3, h4⟩ := b
  refine ⟨l ++ m, fun x hx => ?_, fun c hc => h c (h2 c fun x hx => hc x (by simp [hx])) (h4 c fun x hx => hc x (by simp [hx]))⟩
  rcases List.mem_append.1 hx with hx | hx
  · exact h1 x hx
  · exact h3 x hx
theorem Uses.self {call : CallT} {Φ : CallT → Prop} (a : Uses call Φ) : Φ call := by
  obtain ⟨l, h1, h2⟩ := a
  exact h2 call h1
theorem Uses.le {call c' : CallT} {Φ : CallT → Prop} (a : Uses call Φ) (h : ∀ f x y r, call f x y = some r → c' f x y = some r) : Φ c' := by
  obtain ⟨l, h1, h2⟩ := a
  exact h2 c' fun x hx => h _ _ _ _ (h1 x hx)

section
variable {P : Program} {C : CallT} {call : CallT}

theorem uses_step {o : Oper} {ρ : Operand → V} {h : H} {r : V × H} (hs : step call P o ρ h = some r) : Uses call fun c => step c P o ρ h = some r := by
  cases hk : kindOf P o.op with
  | call =>
    have e : ∀ c : CallT, step c P o ρ h = callOp c o.op ρ h := fun c => by simp [step, hk]
    rw [e] at hs
    unfold callOp at hs
    split at hs
    · rename_i _ y z w hop
      split at hs
      · rename_i _ g first caps hf
        refine ⟨[(g, first ++ z.toList.map ρ ++ caps, h, r)], by simpa using hs, fun c hc => ?_⟩
        show step c P o ρ h = some r
        rw [e]
        have := hc _ (List.mem_singleton.2 rfl)
        simp only [callOp, hop, hf]
        exact this
      · cases hs
    · cases hs
  | pure | read | act | no =>
    refine Uses.none fun c => ?_
    have : step c P o ρ h = step call P o ρ h := by simp [step, hk]
    rw [this]
    exact hs

theorem uses_runOps {ops : List Oper} : ∀ (n : Nat) (ctx : Option (Nat × Bool)) (l : List Oper) (e : Env) (h : H) (r : Env × H), runOps call P ops n ctx l e h = some r → Uses call fun c => runOps c P ops n ctx l e h = some r
  | n, ctx, [], e, h, r, hr => by
    refine Uses.none fun c => ?_
    have : some (e, h) = some r := by cases n <;> simpa [runOps] using hr
    cases n <;> simpa [runOps] using this
  | 0, _, _ :: _, _, _, _, hr => by simp [runOps] at hr
  | n + 1, ctx, o :: l, e, h, r, hr => by
    unfold runOps at hr
    split at hr
    · rename_i hg
      obtain ⟨s, hs, hr⟩ := Option.bind_eq_some_iff.1 hr
      refine (uses_step hs).and (uses_runOps n ctx l _ _ _ hr) fun c h1 h2 => ?_
      unfold runOps
      rw [if_pos hg, h1]
      exact h2
    · rename_i hg
      cases hgd : o.guard with
      | none => simp [hgd] at hr
      | some qw =>
        obtain ⟨q, w⟩ := qw
        simp only [hgd] at hr
        cases hq : dstOf ops q with
        | none => simp [hq] at hr
        | some d =>
          simp only [hq] at hr
          cases hb : e.getD d .undef with
          | bool b =>
            rw [hb] at hr
            simp only at hr
            cases hdr : (o :: l).drop (ahead d (o :: l)) with
            | nil => simp [hdr] at hr
            | cons pk rest' =>
              obtain ⟨x, y, hpk⟩ := ahead_spec d (o :: l) pk rest' hdr
              obtain ⟨pdst, pop, ptype, ppos, pafter, pguard⟩ := pk
              simp only at hpk
              subst hpk
              simp only [hdr] at hr
              obtain ⟨s, hs, hr⟩ := Option.bind_eq_some_iff.1 hr
              have h1 : Uses call fun c => cond (b == w) ((runOps c P ops n (some (q, w)) ((o :: l).take (ahead d (o :: l))) e h).map fun r => (ev r.1 (cond w x y), r.2)) (some (ev (forget ((o :: l).take (ahead d (o :: l))) e) (cond w y x), h)) = some s := by
                cases hbw : (b == w) with
                | true =>
                  rw [hbw] at hs
                  simp only [cond_true] at hs ⊢
                  obtain ⟨r', h1, h2⟩ := Option.map_eq_some_iff.1 hs
                  exact (uses_runOps n _ _ _ _ _ h1).map fun c hc => by rw [hc]; simp [h2]
                | false =>
                  rw [hbw] at hs
                  exact Uses.none fun c => hs
              refine h1.and (uses_runOps n ctx _ _ _ _ hr) fun c h2 h3 => ?_
              unfold runOps
              rw [if_neg hg]
              simp only [hgd, hq, hb, hdr]
              rw [h2]
              exact h3
          | _ => rw [hb] at hr; simp at hr

theorem uses_lex {ops : List Oper} : ∀ (l : List Oper) (sk : List Bool) (e : Env) (h : H) (x : List Rec × Env × H), lexRun call P ops l sk e h = some x → Uses call fun c => lexRun c P ops l sk e h = some x
  | [], sk, e, h, x, hr => Uses.none fun c => by simpa [lexRun] using hr
  | o :: l, sk, e, h, x, hr => by
    simp only [lexRun] at hr
    obtain ⟨s, hs, hr⟩ := Option.bind_eq_some_iff.1 hr
    obtain ⟨r, hv, hr⟩ := Option.bind_eq_some_iff.1 hr
    obtain ⟨y, hl, hr⟩ := Option.bind_eq_some_iff.1 hr
    have h1 : Uses call fun c => cond s (some (V.undef, h)) (step c P o (ev e) h) = some r := by
      cases s with
      | true => exact Uses.none fun c => hv
      | false => exact uses_step hv
    refine h1.and (uses_lex l _ _ _ _ hl) fun c h2 h3 => ?_
    simp only [lexRun]
    rw [hs]
    simp only [Option.bind_some]
    rw [h2]
    simp only [Option.bind_some]
    rw [h3]
    exact hr

theorem uses_any {ops : List Oper} {F : List (Nat × Nat)} {e : Env} {h : H} {x : Env × H} (hr : runAny call P ops F e h = some x) : Uses call fun c => runAny c P ops F e h = some x := by
  unfold runAny at hr
  obtain ⟨y, hl, hr⟩ := Option.bind_eq_some_iff.1 hr
  refine (uses_lex _ _ _ _ _ hl).map fun c hc => ?_
  unfold runAny
  rw [hc]
  exact hr

theorem uses_exec {k : Nat} : ∀ (c : Code) (e : Env) (h : H) (r : Ex × Env × H), exec call P k c e h = some r → Uses call fun c' => ∀ k', k ≤ k' → exec c' P k' c e h = some r
  | .region _ ops false, e, h, r, hr => by
    simp only [exec] at hr ⊢
    obtain ⟨s, hs, hr⟩ := Option.map_eq_some_iff.1 hr
    exact (uses_runOps _ _ _ _ _ _ hs).map fun c hc k' _ => by rw [hc]; simp [hr]
  | .region _ ops true, e, h, r, hr => by
    simp only [exec] at hr ⊢
    obtain ⟨s, hs, hr⟩ := Option.map_eq_some_iff.1 hr
    exact (uses_any hs).map fun c hc k' _ => by rw [hc]; simp [hr]
  | .seq a b, e, h, r, hr => by
    simp only [exec] at hr ⊢
    split at hr
    · rename_i e1 h1 ha
      refine (uses_exec a _ _ _ ha).and (uses_exec b _ _ _ hr) fun c h2 h3 k' hk => ?_
      rw [h2 k' hk]
      exact h3 k' hk
    · rename_i hne
      refine (uses_exec a _ _ _ hr).map fun c h2 k' hk => ?_
      rw [h2 k' hk]
      obtain ⟨x, e1, h1⟩ := r
      cases x
      · exact absurd hr (hne e1 h1)
      · rfl
      · rfl
  | .cond x a b, e, h, r, hr => by
    simp only [exec] at hr ⊢
    split at hr
    · rename_i t ht
      cases t
      · exact (uses_exec b _ _ _ hr).map fun c h2 k' hk => h2 k' hk
      · exact (uses_exec a _ _ _ hr).map fun c h2 k' hk => h2 k' hk
    · cases hr
  | .block id b, e, h, r, hr => by
    simp only [exec] at hr ⊢
    split at hr
    · rename_i j e1 h1 hb
      refine (uses_exec b _ _ _ hb).map fun c h2 k' hk => ?_
      rw [h2 k' hk]
      exact hr
    · rename_i hne
      refine (uses_exec b _ _ _ hr).map fun c h2 k' hk => ?_
      rw [h2 k' hk]
      obtain ⟨x, e1, h1⟩ := r
      cases x
      · rfl
      · exact absurd hr (hne _ e1 h1)
      · rfl
  | .loop b, e, h, r, hr => by
    simp only [exec] at hr ⊢
    have key : ∀ n e h, iter (exec call P k b) n e h = some r → Uses call fun c' => ∀ k', k ≤ k' → ∀ n', n ≤ n' → iter (exec c' P k' b) n' e h = some r := by
      intro n
      induction n with
      | zero => intro e h hi; simp [iter] at hi
      | succ n ih =>
        intro e h hi
        simp only [iter] at hi
        split at hi
        · rename_i e1 h1 hb
          refine (uses_exec b _ _ _ hb).and (ih _ _ hi) fun c h2 h3 k' hk n' hn => ?_
          obtain ⟨m, rfl⟩ : ∃ m, n' = m + 1 := ⟨n' - 1, by omega⟩
          simp only [iter]
          rw [h2 k' hk]
          exact h3 k' hk m (by omega)
        · rename_i hne
          refine (uses_exec b _ _ _ hi).map fun c h2 k' hk n' hn => ?_
          obtain ⟨m, rfl⟩ : ∃ m, n' = m + 1 := ⟨n' - 1, by omega⟩
          simp only [iter]
          rw [h2 k' hk]
          obtain ⟨x, e1, h1⟩ := r
          cases x
          · exact absurd hi (hne e1 h1)
          · rfl
          · rfl
    exact (key k e h hr).map fun c hc k' hk => hc k' hk k' hk
  | .skip, e, h, r, hr | .exit _, e, h, r, hr | .ret, e, h, r, hr => by
    simp only [exec] at hr ⊢
    exact Uses.none fun c k' _ => hr
  | .rangeFunc _ _ _ _, _, _, _, hr | .scope _, _, _, _, hr | .label _, _, _, _, hr | .goto _, _, _, _, hr | .refuse _, _, _, _, hr => by simp [exec] at hr

theorem finish_some {fn : Func} {h : H} {o : Out} {r : V × H} (hf : finish P fn h o = some r) : ∃ x, o = some x := by
  cases o with
  | none => simp [finish] at hf
  | some x => exact ⟨x, rfl⟩

theorem callF_mono : ∀ k f args h r, callF P C k f args h = some r → ∀ k', k ≤ k' → callF P C k' f args h = some r
  | 0, _, _, _, _, hr, _, _ => by simp [callF] at hr
  | k + 1, f, args, h, r, hr, k', hk => by
    obtain ⟨m, rfl⟩ : ∃ m, k' = m + 1 := ⟨k' - 1, by omega⟩
    simp only [callF] at hr ⊢
    split at hr
    · rename_i fn hf
      split at hr
      · split at hr
        · rename_i c hc
          obtain ⟨x, hx⟩ := finish_some hr
          have h2 := (uses_exec c _ _ _ hx).le (c' := callF P C m) (fun f x y r hh => callF_mono k f x y r hh m (by omega)) m (by omega)
          rw [if_pos ‹fnOk P fn = true›, h2]
          rw [hx] at hr
          exact hr
        · cases hr
      · rename_i hno
        rw [if_neg hno]
        exact hr
    · cases hr

open Classical in
/-- A call, as deep and as long as it takes. -/
noncomputable def Does (P : Program) (C : CallT) : CallT := fun f args h => if x : ∃ k r, callF P C k f args h = some r then some x.choose_spec.choose else none

theorem Does_iff {f : FuncId} {args : List V} {h : H} {r : V × H} : Does P C f args h = some r ↔ ∃ k, callF P C k f args h = some r := by
  unfold Does
  constructor
  · intro hc
    split at hc
    · rename_i x
      injection hc with hc
      exact ⟨x.choose, hc ▸ x.choose_spec.choose_spec⟩
    · cases hc
  · rintro ⟨k, hk⟩
    have x : ∃ k r, callF P C k f args h = some r := ⟨k, r, hk⟩
    rw [dif_pos x]
    have h1 := callF_mono _ _ _ _ _ x.choose_spec.choose_spec (max x.choose k) (Nat.le_max_left _ _)
    have h2 := callF_mono _ _ _ _ _ hk (max x.choose k) (Nat.le_max_right _ _)
    rw [h1] at h2
    exact h2

open Classical in
/-- Code, as long as it takes. -/
noncomputable def Exec (P : Program) (C : CallT) (c : Code) (e : Env) (h : H) : Out := if x : ∃ k r, exec (Does P C) P k c e h = some r then some x.choose_spec.choose else none

theorem exec_mono {k k' : Nat} {c : Code} {e : Env} {h : H} {r : Ex × Env × H} (hr : exec call P k c e h = some r) (hk : k ≤ k') : exec call P k' c e h = some r := (uses_exec c e h r hr).self k' hk

theorem Exec_iff {c : Code} {e : Env} {h : H} {r : Ex × Env × H} : Exec P C c e h = some r ↔ ∃ k, exec (Does P C) P k c e h = some r := by
  unfold Exec
  constructor
  · intro hc
    split at hc
    · rename_i x
      injection hc with hc
      exact ⟨x.choose, hc ▸ x.choose_spec.choose_spec⟩
    · cases hc
  · rintro ⟨k, hk⟩
    have x : ∃ k r, exec (Does P C) P k c e h = some r := ⟨k, r, hk⟩
    rw [dif_pos x]
    have h1 := exec_mono x.choose_spec.choose_spec (Nat.le_max_left x.choose k)
    have h2 := exec_mono hk (Nat.le_max_right x.choose k)
    rw [h1] at h2
    exact h2

/-- Finitely many calls have a bound. -/
theorem uses_bound {Φ : CallT → Prop} (hu : Uses (Does P C) Φ) : ∃ k, ∀ m, k ≤ m → Φ (callF P C m) := by
  obtain ⟨l, h1, h2⟩ := hu
  have : ∃ k, ∀ x ∈ l, ∀ m, k ≤ m → callF P C m x.1 x.2.1 x.2.2.1 = some x.2.2.2 := by
    clear h2
    induction l with
    | nil => exact ⟨0, by simp⟩
    | cons y l ih =>
      obtain ⟨k, hk⟩ := ih fun x hx => h1 x (by simp [hx])
      obtain ⟨j, hj⟩ := Does_iff.1 (h1 y (by simp))
      refine ⟨max j k, fun x hx m hm => ?_⟩
      rcases List.mem_cons.1 hx with rfl | hx
      · exact callF_mono _ _ _ _ _ hj m (by omega)
      · exact hk x hx m (by omega)
  obtain ⟨k, hk⟩ := this
  exact ⟨k, fun m hm => h2 _ fun x hx => hk x hx m hm⟩

/-- What a call does, by its code. -/
theorem Does_of {f : FuncId} {fn : Func} {c : Code} {args : List V} {h : H} {r : V × H} (hf : P.funcs[f]? = some fn) (hok : fnOk P fn = true) (hb : fn.body = some c)
    (hr : finish P fn h (Exec P C c (enter fn args) { blks := h.blks, esc := [] }) = some r) : Does P C f args h = some r := by
  obtain ⟨x, hx⟩ := finish_some hr
  obtain ⟨k, hk⟩ := Exec_iff.1 hx
  obtain ⟨j, hj⟩ := uses_bound (uses_exec c _ _ _ hk)
  refine Does_iff.2 ⟨max j k + 1, ?_⟩
  have e : callF P C (max j k + 1) f args h = finish P fn h (exec (callF P C (max j k)) P (max j k) c (enter fn args) { blks := h.blks, esc := [] }) := by
    simp [callF, hf, hok, hb]
  rw [e, hj (max j k) (Nat.le_max_left _ _) (max j k) (Nat.le_max_right _ _), ← hx]
  exact hr

/-- And what the program does. -/
theorem Does_ok (hmix : P.follows .mixedOrders = true) (hC : CallsOk C P) (hG : ∀ f args h v h', C f args h = some (v, h') → Grows h h') : CallsOk (Does P C) P := fun f args h v h' hc => by
  obtain ⟨k, hk⟩ := Does_iff.1 hc
  exact callF_ok hmix hC hG k f args h v h' hk

theorem Exec_skip {e : Env} {h : H} : Exec P C .skip e h = some (.normal, e, h) := Exec_iff.2 ⟨0, rfl⟩
theorem Exec_ret {e : Env} {h : H} : Exec P C .ret e h = some (.ret, e, h) := Exec_iff.2 ⟨0, rfl⟩
theorem Exec_exit {id : Nat} {e : Env} {h : H} : Exec P C (.exit id) e h = some (.exit id, e, h) := Exec_iff.2 ⟨0, rfl⟩
theorem Exec_region {id : Nat} {ops : Array Oper} {e : Env} {h : H} : Exec P C (.region id ops false) e h = (runOps (Does P C) P ops.toList ops.size none ops.toList e h).map fun r => (.normal, r.1, r.2) := by
  refine Option.ext fun r => ?_
  rw [Exec_iff]
  exact ⟨fun ⟨k, hk⟩ => hk, fun hk => ⟨0, hk⟩⟩
theorem Exec_any {id : Nat} {ops : Array Oper} {e : Env} {h : H} : Exec P C (.region id ops true) e h = (runAny (Does P C) P ops.toList (floats P ops.toList (waits ops.toList [])) e h).map fun r => (.normal, r.1, r.2) := by
  refine Option.ext fun r => ?_
  rw [Exec_iff]
  exact ⟨fun ⟨k, hk⟩ => hk, fun hk => ⟨0, hk⟩⟩
theorem Exec_cond {c : Operand} {a b : Code} {e : Env} {h : H} : Exec P C (.cond c a b) e h = match ev e c with
    | .bool t => cond t (Exec P C a e h) (Exec P C b e h)
    | _ => none := by
  refine Option.ext fun r => ?_
  rw [Exec_iff]
  simp only [exec]
  split
  · rename_i t ht
    rw [ht]
    cases t <;> simp only [cond_true, cond_false, Exec_iff]
  · rename_i hne
    constructor
    · rintro ⟨k, hk⟩
      cases hk
    · intro hk
      split at hk
      · rename_i t ht
        exact absurd ht (hne t)
      · cases hk
theorem Exec_seq {a b : Code} {e : Env} {h : H} : Exec P C (.seq a b) e h = match Exec P C a e h with
    | some (.normal, e', h') => Exec P C b e' h'
    | r => r := by
  refine Option.ext fun r => ?_
  rw [Exec_iff]
  constructor
  · rintro ⟨k, hk⟩
    simp only [exec] at hk
    split at hk
    · rename_i e1 h1 ha
      rw [Exec_iff.2 ⟨k, ha⟩]
      exact Exec_iff.2 ⟨k, hk⟩
    · rename_i hne
      rw [Exec_iff.2 ⟨k, hk⟩]
      obtain ⟨x, e1, h1⟩ := r
      cases x
      · exact absurd hk (hne e1 h1)
      · rfl
      · rfl
  · intro hr
    split at hr
    · rename_i e1 h1 ha
      obtain ⟨k, hk⟩ := Exec_iff.1 ha
      obtain ⟨j, hj⟩ := Exec_iff.1 hr
      refine ⟨max k j, ?_⟩
      simp only [exec]
      rw [exec_mono hk (Nat.le_max_left k j)]
      exact exec_mono hj (Nat.le_max_right k j)
    · rename_i hne
      obtain ⟨k, hk⟩ := Exec_iff.1 hr
      refine ⟨k, ?_⟩
      simp only [exec]
      rw [hk]
      obtain ⟨x, e1, h1⟩ := r
      cases x
      · exact absurd hr (hne e1 h1)
      · rfl
      · rfl
theorem Exec_block {id : Nat} {b : Code} {e : Env} {h : H} : Exec P C (.block id b) e h = match Exec P C b e h with
    | some (.exit j, e', h') => if j = id then some (.normal, e', h') else some (.exit j, e', h')
    | r => r := by
  refine Option.ext fun r => ?_
  rw [Exec_iff]
  simp only [exec]
  constructor
  · rintro ⟨k, hk⟩
    split at hk
    · rename_i j e1 h1 ha
      rw [Exec_iff.2 ⟨k, ha⟩]
      exact hk
    · rename_i hne
      rw [Exec_iff.2 ⟨k, hk⟩]
      obtain ⟨x, e1, h1⟩ := r
      cases x
      · rfl
      · exact absurd hk (hne _ e1 h1)
      · rfl
  · intro hr
    split at hr
    · rename_i j e1 h1 ha
      obtain ⟨k, hk⟩ := Exec_iff.1 ha
      refine ⟨k, ?_⟩
      rw [hk]
      exact hr
    · rename_i hne
      obtain ⟨k, hk⟩ := Exec_iff.1 hr
      refine ⟨k, ?_⟩
      rw [hk]
      obtain ⟨x, e1, h1⟩ := r
      cases x
      · rfl
      · exact absurd hr (hne _ e1 h1)
      · rfl

theorem iter_mono {call : CallT} {b : Code} {k k' : Nat} (hk : k ≤ k') : ∀ n n', n ≤ n' → ∀ e h r, iter (exec call P k b) n e h = some r → iter (exec call P k' b) n' e h = some r
  | 0, _, _, _, _, _, hi => by simp [iter] at hi
  | n + 1, n', hn, e, h, r, hi => by
    obtain ⟨m, rfl⟩ : ∃ m, n' = m + 1 := ⟨n' - 1, by omega⟩
    simp only [iter] at hi ⊢
    split at hi
    · rename_i e1 h1 hb
      rw [exec_mono hb hk]
      exact iter_mono hk n m (by omega) _ _ _ hi
    · rename_i hne
      rw [exec_mono hi hk]
      obtain ⟨x, e1, h1⟩ := r
      cases x
      · exact absurd hi (hne e1 h1)
      · rfl
      · rfl

theorem Exec_loop {b : Code} {e : Env} {h : H} : Exec P C (.loop b) e h = match Exec P C b e h with
    | some (.normal, e', h') => Exec P C (.loop b) e' h'
    | r => r := by
  refine Option.ext fun r => ?_
  rw [Exec_iff]
  simp only [exec]
  constructor
  · rintro ⟨k, hk⟩
    cases k with
    | zero => simp [iter] at hk
    | succ k =>
      simp only [iter] at hk
      split at hk
      · rename_i e1 h1 ha
        rw [Exec_iff.2 ⟨_, ha⟩]
        refine Exec_iff.2 ⟨k + 1, ?_⟩
        simp only [exec]
        exact iter_mono (Nat.le_refl _) k (k + 1) (by omega) _ _ _ hk
      · rename_i hne
        rw [Exec_iff.2 ⟨_, hk⟩]
        obtain ⟨x, e1, h1⟩ := r
        cases x
        · exact absurd hk (hne e1 h1)
        · rfl
        · rfl
  · intro hr
    split at hr
    · rename_i e1 h1 ha
      obtain ⟨k, hk⟩ := Exec_iff.1 ha
      obtain ⟨j, hj⟩ := Exec_iff.1 hr
      simp only [exec] at hj
      refine ⟨max k j + 1, ?_⟩
      simp only [iter]
      rw [exec_mono hk (by omega : k ≤ max k j + 1)]
      exact iter_mono (by omega) j (max k j) (Nat.le_max_right _ _) _ _ _ hj
    · rename_i hne
      obtain ⟨k, hk⟩ := Exec_iff.1 hr
      refine ⟨k + 1, ?_⟩
      simp only [iter]
      rw [exec_mono hk (by omega : k ≤ k + 1)]
      obtain ⟨x, e1, h1⟩ := r
      cases x
      · exact absurd hr (hne e1 h1)
      · rfl
      · rfl
end

end Go.Hl
end
section
/-! Hl: what holds behind code. -/
namespace Go.Hl

/-- A mark on what a simplifier shall leave alone. -/
class Tok {α : Type} (x : α) : Type where
  n : Nat
instance instTok {α : Type} (x : α) : Tok x := ⟨0⟩
/-- It gives something of which Q holds. -/
def Ok {α : Type} (o : Option α) (Q : α → Prop) [Tok Q] : Prop := ∃ a, o = some a ∧ Q a

theorem Ok_some {α : Type} {a : α} {Q : α → Prop} {t : Tok Q} : Ok (some a) Q ↔ Q a := by simp [Ok]
theorem Ok_none {α : Type} {Q : α → Prop} {t : Tok Q} : Ok (none : Option α) Q ↔ False := by simp [Ok]
theorem Ok_bind {α β : Type} {o : Option α} {f : α → Option β} {Q : β → Prop} : Ok (o.bind f) Q ↔ Ok o fun a => Ok (f a) Q := by
  cases o <;> simp [Ok]
theorem Ok_map {α β : Type} {o : Option α} {f : α → β} {Q : β → Prop} : Ok (o.map f) Q ↔ Ok o fun a => Q (f a) := by
  cases o <;> simp [Ok]
theorem Ok_if {α : Type} {p : Prop} [Decidable p] {a b : Option α} {Q : α → Prop} : Ok (if p then a else b) Q ↔ if p then Ok a Q else Ok b Q := by
  split <;> rfl
theorem Ok_if_none {α : Type} {p : Prop} [Decidable p] {a : Option α} {Q : α → Prop} : Ok (if p then a else none) Q ↔ p ∧ Ok a Q := by
  split <;> simp_all [Ok]
theorem Ok_none_if {α : Type} {p : Prop} [Decidable p] {a : Option α} {Q : α → Prop} : Ok (if p then none else a) Q ↔ ¬ p ∧ Ok a Q := by
  split <;> simp_all [Ok]
theorem Ok_iff {α : Type} {o : Option α} {Q R : α → Prop} (h : ∀ a, Q a ↔ R a) : Ok o Q ↔ Ok o R :=
  ⟨fun ⟨a, h1, h2⟩ => ⟨a, h1, (h a).1 h2⟩, fun ⟨a, h1, h2⟩ => ⟨a, h1, (h a).2 h2⟩⟩
theorem Ok.mono {α : Type} {o : Option α} {Q R : α → Prop} (h : Ok o Q) (hq : ∀ a, Q a → R a) : Ok o R := by
  obtain ⟨a, h1, h2⟩ := h
  exact ⟨a, h1, hq a h2⟩

/-- Code, and what holds behind it. -/
def W (P : Program) (C : CallT) (c : Code) (e : Env) (h : H) (Q : Ex → Env → H → Prop) [Tok c] [Tok Q] : Prop := Ok (Exec P C c e h) fun r => Q r.1 r.2.1 r.2.2

section
variable {P : Program} {C : CallT}

theorem W.mono {c : Code} {e : Env} {h : H} {Q R : Ex → Env → H → Prop} (hw : W P C c e h Q) (hq : ∀ x e' h', Q x e' h' → R x e' h') : W P C c e h R := Ok.mono hw fun _a ha => hq _ _ _ ha

theorem W_skip {e : Env} {h : H} {Q : Ex → Env → H → Prop} : W P C .skip e h Q ↔ Q .normal e h := by simp [W, Exec_skip, Ok_some]
theorem W_ret {e : Env} {h : H} {Q : Ex → Env → H → Prop} : W P C .ret e h Q ↔ Q .ret e h := by simp [W, Exec_ret, Ok_some]
theorem W_exit {id : Nat} {e : Env} {h : H} {Q : Ex → Env → H → Prop} : W P C (.exit id) e h Q ↔ Q (.exit id) e h := by simp [W, Exec_exit, Ok_some]

/-- Code behind code. -/
def andThen (b : Env → H → Prop) (Q : Ex → Env → H → Prop) : Ex → Env → H → Prop
  | .normal, e, h => b e h
  | x, e, h => Q x e h
def blockEnd (id : Nat) (Q : Ex → Env → H → Prop) : Ex → Env → H → Prop
  | .exit j, e, h => if j = id then Q .normal e h else Q (.exit j) e h
  | x, e, h => Q x e h
theorem andThen_normal {b : Env → H → Prop} {Q : Ex → Env → H → Prop} {e : Env} {h : H} : andThen b Q .normal e h ↔ b e h := Iff.rfl
theorem andThen_ret {b : Env → H → Prop} {Q : Ex → Env → H → Prop} {e : Env} {h : H} : andThen b Q .ret e h ↔ Q .ret e h := Iff.rfl
theorem andThen_exit {b : Env → H → Prop} {Q : Ex → Env → H → Prop} {e : Env} {h : H} {j : Nat} : andThen b Q (.exit j) e h ↔ Q (.exit j) e h := Iff.rfl
theorem blockEnd_normal {id : Nat} {Q : Ex → Env → H → Prop} {e : Env} {h : H} : blockEnd id Q .normal e h ↔ Q .normal e h := Iff.rfl
theorem blockEnd_ret {id : Nat} {Q : Ex → Env → H → Prop} {e : Env} {h : H} : blockEnd id Q .ret e h ↔ Q .ret e h := Iff.rfl
theorem blockEnd_exit {id j : Nat} {Q : Ex → Env → H → Prop} {e : Env} {h : H} : blockEnd id Q (.exit j) e h ↔ if j = id then Q .normal e h else Q (.exit j) e h := Iff.rfl

theorem W_seq {a b : Code} {e : Env} {h : H} {Q : Ex → Env → H → Prop} : W P C (.seq a b) e h Q ↔ W P C a e h (andThen (fun e' h' => W P C b e' h' Q) Q) := by
  unfold W
  rw [Exec_seq]
  cases Exec P C a e h with
  | none => simp [Ok_none]
  | some r =>
    obtain ⟨x, e1, h1⟩ := r
    cases x <;> simp only [Ok_some] <;> simp [andThen]
theorem W_block {id : Nat} {b : Code} {e : Env} {h : H} {Q : Ex → Env → H → Prop} : W P C (.block id b) e h Q ↔ W P C b e h (blockEnd id Q) := by
  unfold W
  rw [Exec_block]
  cases Exec P C b e h with
  | none => simp [Ok_none]
  | some r =>
    obtain ⟨x, e1, h1⟩ := r
    cases x
    · simp only [Ok_some]
      simp [blockEnd]
    · simp only [Ok_some]
      simp only [blockEnd]
      split <;> simp [Ok_some]
    · simp only [Ok_some]
      simp [blockEnd]
def condW (P : Program) (C : CallT) (a b : Code) (e : Env) (h : H) (Q : Ex → Env → H → Prop) [Tok a] [Tok b] [Tok Q] : V → Prop
  | .bool t => cond t (W P C a e h Q) (W P C b e h Q)
  | _ => False
theorem W_cond {c : Operand} {a b : Code} {e : Env} {h : H} {Q : Ex → Env → H → Prop} : W P C (.cond c a b) e h Q ↔ condW P C a b e h Q (ev e c) := by
  unfold W condW
  rw [Exec_cond]
  cases ev e c <;> simp [Ok_none]
  rename_i t
  cases t <;> rfl
theorem condW_dec {a b : Code} {e : Env} {h : H} {Q : Ex → Env → H → Prop} {p : Prop} [Decidable p] : condW P C a b e h Q (.bool (decide p)) ↔ if p then W P C a e h Q else W P C b e h Q := by
  unfold condW
  by_cases hp : p <;> simp [hp]
theorem condW_bool {a b : Code} {e : Env} {h : H} {Q : Ex → Env → H → Prop} {t : Bool} : condW P C a b e h Q (.bool t) ↔ if t = true then W P C a e h Q else W P C b e h Q := by
  unfold condW
  cases t <;> simp

theorem W_region {id : Nat} {ops : Array Oper} {e : Env} {h : H} {Q : Ex → Env → H → Prop} : W P C (.region id ops false) e h Q ↔ Ok (runOps (Does P C) P ops.toList ops.size none ops.toList e h) fun r => Q .normal r.1 r.2 := by
  unfold W
  rw [Exec_region, Ok_map]

/-- A loop: while I holds with n, a round leaves it with less, or ends. -/
theorem W_loop {b : Code} {Q : Ex → Env → H → Prop} (I : Nat → Env → H → Prop)
    (hb : ∀ n e h, I n e h → W P C b e h (andThen (fun e' h' => ∃ m, m < n ∧ I m e' h') Q)) : ∀ n e h, I n e h → W P C (.loop b) e h Q := by
  intro n
  induction n using Nat.strongRecOn with
  | _ n ih =>
    intro e h hi
    have hw := hb n e h hi
    unfold W at hw ⊢
    rw [Exec_loop]
    obtain ⟨r, h1, h2⟩ := hw
    rw [h1]
    obtain ⟨x, e1, h1'⟩ := r
    cases x with
    | normal =>
      obtain ⟨m, hm, hi'⟩ := h2
      exact ih m hm e1 h1' hi'
    | exit j => exact Ok_some.2 h2
    | ret => exact Ok_some.2 h2

/-- What a function hands back. -/
def handed (P : Program) (rs : List ResultVar) (h : H) (R : V × H → Prop) : Ex → Env → H → Prop
  | .exit _, _, _ => False
  | _, e, h' => Ok (resultsOf P e h' rs) fun vs => R (tupOf vs, leave h h' (tupOf vs))
theorem handed_ret {rs : List ResultVar} {h h' : H} {e : Env} {R : V × H → Prop} : handed P rs h R .ret e h' ↔ Ok (resultsOf P e h' rs) fun vs => R (tupOf vs, leave h h' (tupOf vs)) := Iff.rfl
theorem handed_normal {rs : List ResultVar} {h h' : H} {e : Env} {R : V × H → Prop} : handed P rs h R .normal e h' ↔ Ok (resultsOf P e h' rs) fun vs => R (tupOf vs, leave h h' (tupOf vs)) := Iff.rfl

theorem get_enter {fn : Func} {args : List V} {t : Nat} : (enter fn args).getD t .undef = args.getD t .undef := by
  unfold enter
  rw [List.getD_eq_getElem?_getD, List.getD_eq_getElem?_getD]
  by_cases ht : t < args.length
  · rw [List.getElem?_append_left ht]
  · rw [List.getElem?_append_right (by omega), List.getElem?_eq_none (by omega : args.length ≤ t), List.getElem?_replicate]
    split <;> rfl
theorem len_enter {fn : Func} {args : List V} (h : args.length ≤ fn.ntmps) : (enter fn args).length = fn.ntmps := by
  simp [enter]
  omega
def get (e : Env) (t : Nat) : V := e.getD t .undef

/-- All temporaries, as a function. -/
def mk (n : Nat) (σ : Nat → V) : Env := (List.range n).map σ
def upd (σ : Nat → V) (t : Nat) (v : V) : Nat → V := fun i => if i = t then v else σ i
theorem upd_same {σ : Nat → V} {t : Nat} {v : V} : upd σ t v t = v := by simp [upd]
theorem upd_ne {σ : Nat → V} {d t : Nat} {v : V} (h : (d == t) = false) : upd σ d v t = σ t := by
  simp only [beq_eq_false_iff_ne] at h
  simp [upd, Ne.symm h]
theorem get_mk {n t : Nat} {σ : Nat → V} (h : t < n) : get (mk n σ) t = σ t := by
  simp [get, mk, List.getD_eq_getElem?_getD, h]
theorem set_mk {n t : Nat} {σ : Nat → V} {v : V} : (mk n σ).set t v = mk n (upd σ t v) := by
  apply List.ext_getElem?
  intro i
  simp only [mk, List.getElem?_set, List.length_map, List.length_range, List.getElem?_map]
  by_cases ht : t = i
  · subst ht
    by_cases hn : t < n
    · simp [hn, upd]
    · simp [hn]
  · by_cases hn : i < n
    · simp [ht, hn, upd, Ne.symm ht]
    · simp [ht, hn]
theorem mk_get {e : Env} {n : Nat} (h : e.length = n) : mk n (get e) = e := by
  apply List.ext_getElem?
  intro i
  simp only [mk, List.getElem?_map]
  by_cases hn : i < n
  · have : i < e.length := by omega
    simp [hn, get, List.getD_eq_getElem?_getD, this]
  · rw [List.getElem?_eq_none (by omega : e.length ≤ i)]
    simp [hn]

theorem of_len {e : Env} {n : Nat} (h : e.length = n) : ∃ σ, e = mk n σ := ⟨get e, (mk_get h).symm⟩
theorem len_mk {n : Nat} {σ : Nat → V} : (mk n σ).length = n := by simp [mk]
/-- A call by its code. -/
theorem Does_wp {f : FuncId} {fn : Func} {c : Code} {args : List V} {h : H} {R : V × H → Prop} {n : Nat} {rs : List ResultVar} (hf : P.funcs[f]? = some fn) (hok : fnOk P fn = true) (hb : fn.body = some c)
    (hn : fn.ntmps = n) (hrs : fn.results.toList = rs) (ha : args.length ≤ n)
    (hr : ∀ σ : Nat → V, (∀ t, σ t = get args t) → W P C c (mk n σ) { blks := h.blks, esc := [] } (handed P rs h R)) : Ok (Does P C f args h) R := by
  subst hn hrs
  have hw := hr (get (enter fn args)) (fun _ => get_enter)
  rw [mk_get (len_enter ha)] at hw
  obtain ⟨r, h1, h2⟩ := hw
  obtain ⟨x, e1, h1'⟩ := r
  cases x with
  | exit j => exact h2.elim
  | normal | ret =>
    obtain ⟨vs, h3, h4⟩ := h2
    refine ⟨_, Does_of hf hok hb ?_, h4⟩
    rw [h1]
    simp [finish, h3]
theorem Does_eq {f : FuncId} {fn : Func} {c : Code} {args : List V} {h : H} {r : V × H} {n : Nat} {rs : List ResultVar} (hf : P.funcs[f]? = some fn) (hok : fnOk P fn = true) (hb : fn.body = some c)
    (hn : fn.ntmps = n) (hrs : fn.results.toList = rs) (ha : args.length ≤ n)
    (hr : ∀ σ : Nat → V, (∀ t, σ t = get args t) → W P C c (mk n σ) { blks := h.blks, esc := [] } (handed P rs h (fun x => x = r))) : Does P C f args h = some r := by
  obtain ⟨x, h1, h2⟩ := Does_wp hf hok hb hn hrs ha hr
  rw [h1, h2]

/-! ### Operations, one by one -/
theorem run_nil {call : CallT} {ops : List Oper} {n : Nat} {ctx : Option (Nat × Bool)} {e : Env} {h : H} {Q : Env × H → Prop} : Ok (runOps call P ops n ctx [] e h) Q ↔ Q (e, h) := by
  cases n <;> simp [runOps, Ok_some]
theorem run_cons {call : CallT} {ops : List Oper} {n : Nat} {ctx : Option (Nat × Bool)} {rest : List Oper} {e : Env} {h : H} {dst : Option Tmp} {op : Op} {type : TypeId} {pos : String} {after : Array Edge} {Q : Env × H → Prop} :
    Ok (runOps call P ops (n + 1) ctx (⟨dst, op, type, pos, after, ctx⟩ :: rest) e h) Q ↔ Ok (step call P ⟨dst, op, type, pos, after, ctx⟩ (ev e) h) fun r => Ok (runOps call P ops n ctx rest (put e dst r.1) r.2) Q := by
  simp [runOps, Ok_bind]

section
variable {call : CallT} {d : Option Tmp} {t : TypeId} {p : String} {a : Array Edge} {g : Option (Nat × Bool)} {ρ : Operand → V} {h : H} {Q : V × H → Prop}
theorem do_move {x : Operand} : Ok (step call P ⟨d, .move x, t, p, a, g⟩ ρ h) Q ↔ Q (ρ x, h) := by simp [step, kindOf, pureOp, Ok_some]
theorem do_assign {x : Operand} : Ok (step call P ⟨d, .assign x, t, p, a, g⟩ ρ h) Q ↔ Q (ρ x, h) := by simp [step, kindOf, pureOp, Ok_some]
theorem do_bin {o : BinOp} {s u : TypeId} {x y : Operand} : Ok (step call P ⟨d, .binOp o s x y u, t, p, a, g⟩ ρ h) Q ↔ Ok (binV P o s (ρ x) (ρ y)) fun v => Q (v, h) := by simp [step, kindOf, pureOp, Ok_map]
theorem do_un {o : UnOp} {s : TypeId} {x : Operand} : Ok (step call P ⟨d, .unOp o s x, t, p, a, g⟩ ρ h) Q ↔ Ok (unV o (ρ x)) fun v => Q (v, h) := by simp [step, kindOf, pureOp, Ok_map]
theorem do_len {x : Operand} {s : TypeId} : Ok (step call P ⟨d, .call { callee := .builtin .len, args := #[x], argTypes := #[s] }, t, p, a, g⟩ ρ h) Q ↔ Ok (lenOp P s (ρ x)) fun v => Q (v, h) := by
  simp [step, kindOf, pureOp, callPure, Ok_map]
theorem do_min {x y : Operand} {s : Array TypeId} : Ok (step call P ⟨d, .call { callee := .builtin .min, args := #[x, y], argTypes := s }, t, p, a, g⟩ ρ h) Q ↔ Ok (minV (ρ x) (ρ y)) fun v => Q (v, h) := by
  simp [step, kindOf, pureOp, callPure, Ok_map]
theorem do_max {x y : Operand} {s : Array TypeId} : Ok (step call P ⟨d, .call { callee := .builtin .max, args := #[x, y], argTypes := s }, t, p, a, g⟩ ρ h) Q ↔ Ok (maxV (ρ x) (ρ y)) fun v => Q (v, h) := by
  simp [step, kindOf, pureOp, callPure, Ok_map]
theorem do_call {f : Operand} {args : Array Operand} {s : Array TypeId} {i : FuncId} (hf : ρ f = .fn (.func i) [] []) : Ok (step call P ⟨d, .call { callee := .value f, args := args, argTypes := s }, t, p, a, g⟩ ρ h) Q ↔ Ok (call i (args.toList.map ρ) h) Q := by
  simp [step, kindOf, callOp, hf]
theorem do_pure {op : Op} (hk : kindOf P op = .pure) : Ok (step call P ⟨d, op, t, p, a, g⟩ ρ h) Q ↔ Ok (pureOp P ⟨d, op, t, p, a, g⟩ ρ) fun v => Q (v, h) := by simp [step, hk, Ok_map]
theorem do_read {op : Op} (hk : kindOf P op = .read) : Ok (step call P ⟨d, op, t, p, a, g⟩ ρ h) Q ↔ Ok (readOp P op ρ h) fun v => Q (v, h) := by simp [step, hk, Ok_map]
theorem do_act {op : Op} (hk : kindOf P op = .act) : Ok (step call P ⟨d, op, t, p, a, g⟩ ρ h) Q ↔ Ok (actOp P op ρ h) Q := by simp [step, hk]
end

theorem bin_int {o : BinOp} {t : TypeId} {k : IntKind} {x y : Int} (h1 : (o != .shl) = true) (h2 : (o != .shr) = true) : binV P o t (.int k x) (.int k y) = intOp o k x y := by
  cases o <;> simp_all [binV]
theorem bin_shl {t : TypeId} {k k' : IntKind} {x y : Int} : binV P .shl t (.int k x) (.int k' y) = shiftOp .shl k x y := rfl
theorem bin_shr {t : TypeId} {k k' : IntKind} {x y : Int} : binV P .shr t (.int k x) (.int k' y) = shiftOp .shr k x y := rfl
theorem bin_str {o : BinOp} {t : TypeId} {x y : List UInt8} : binV P o t (.str x) (.str y) = strOp o x y := rfl
theorem min_int {k : IntKind} {x y : Int} : minV (.int k x) (.int k y) = some (.int k (if y < x then y else x)) := by simp [minV]
theorem max_int {k : IntKind} {x y : Int} : maxV (.int k x) (.int k y) = some (.int k (if y > x then y else x)) := by simp [maxV]

/-! ### Temporaries -/
theorem ev_tmp {e : Env} {t : Nat} : ev e (.tmp t) = get e t := rfl
theorem ev_const {e : Env} {v : Value} : ev e (.const v) = ofVal v := rfl
theorem ev_func {e : Env} {f : FuncId} : ev e (.func f) = .fn (.func f) [] [] := rfl
theorem put_some {e : Env} {t : Nat} {v : V} : put e (some t) v = e.set t v := rfl
theorem put_none {e : Env} {v : V} : put e none v = e := rfl
theorem get_set_ne {e : Env} {d t : Nat} {v : V} (h : (d == t) = false) : get (e.set d v) t = get e t := by
  simp only [beq_eq_false_iff_ne] at h
  simp [get, List.getD_eq_getElem?_getD, List.getElem?_set_ne h]
theorem get_set_same {e : Env} {t : Nat} {v : V} (h : t < e.length) : get (e.set t v) t = v := by
  simp [get, List.getD_eq_getElem?_getD, h]
theorem getD_get {e : Env} {t : Nat} : e.getD t .undef = get e t := rfl

theorem get_zero {v : V} {l : List V} : get (v :: l) 0 = v := rfl
theorem get_succ {v : V} {l : List V} {n : Nat} : get (v :: l) (n + 1) = get l n := rfl
theorem get_nil {n : Nat} : get [] n = .undef := rfl
theorem len_str {t : TypeId} {s : List UInt8} (h : P.underlying t = some .string) : lenOp P t (.str s) = some (.int .i64 s.length) := by simp [lenOp, h]
theorem len_sl {t e : TypeId} {b o n v z : Nat} {m : Bool} (h : P.underlying t = some (.slice e)) : lenOp P t (.sl b o n v z m) = some (.int .i64 n) := by simp [lenOp, h]
theorem len_nils {t e : TypeId} (h : P.underlying t = some (.slice e)) : lenOp P t .nils = some (.int .i64 0) := by simp [lenOp, h]
theorem results_nil {e : Env} {h : H} : resultsOf P e h [] = some [] := rfl
theorem results_tmp {e : Env} {h : H} {t : Nat} {l : List ResultVar} {Q : List V → Prop} : Ok (resultsOf P e h (.tmp t :: l)) Q ↔ Ok (resultsOf P e h l) fun vs => Q (get e t :: vs) := by
  simp only [resultsOf, resultOf, Ok_map]
  rfl
theorem results_cell {e : Env} {h : H} {x t : Nat} {l : List ResultVar} {Q : List V → Prop} : Ok (resultsOf P e h (.cell x t :: l)) Q ↔ Ok (readVar P t (get e x) h) fun v => Ok (resultsOf P e h l) fun vs => Q (v :: vs) := by
  simp only [resultsOf, resultOf]
  show Ok (match readVar P t (get e x) h with
    | some v => (resultsOf P e h l).map fun vs => v :: vs
    | none => none) Q ↔ _
  cases readVar P t (get e x) h <;> simp [Ok_some, Ok_none, Ok_map]
theorem tupOf_one {v : V} : tupOf [v] = v := rfl
theorem leave_same {h : H} {v : V} : leave h { blks := h.blks, esc := [] } v = h := by
  unfold leave
  simp [H.size]
end

end Go.Hl
end
section
/-! Hl: the rules that a walk uses by itself. -/
namespace Go.Hl
/-- Only the head is worked on: what follows waits. -/
@[congr] theorem Ok_congr {α : Type} {o o' : Option α} {Q : α → Prop} (h : o = o') : Ok o Q = Ok o' Q := by rw [h]
@[congr] theorem W_congr {P : Program} {C : CallT} {c : Code} {e e' : Env} {h h' : H} {Q : Ex → Env → H → Prop} (he : e = e') (hh : h = h') : W P C c e h Q = W P C c e' h' Q := by rw [he, hh]
@[congr] theorem andThen_congr {b : Env → H → Prop} {Q : Ex → Env → H → Prop} {x x' : Ex} {e e' : Env} {h h' : H} (hx : x = x') (he : e = e') (hh : h = h') : andThen b Q x e h = andThen b Q x' e' h' := by rw [hx, he, hh]
@[congr] theorem blockEnd_congr {i : Nat} {Q : Ex → Env → H → Prop} {x x' : Ex} {e e' : Env} {h h' : H} (hx : x = x') (he : e = e') (hh : h = h') : blockEnd i Q x e h = blockEnd i Q x' e' h' := by rw [hx, he, hh]
@[congr] theorem handed_congr {P : Program} {rs : List ResultVar} {h0 : H} {R : V × H → Prop} {x x' : Ex} {e e' : Env} {h h' : H} (hx : x = x') (he : e = e') (hh : h = h') : handed P rs h0 R x e h = handed P rs h0 R x' e' h' := by rw [hx, he, hh]
@[congr] theorem condW_congr {P : Program} {C : CallT} {a b : Code} {e e' : Env} {h h' : H} {Q : Ex → Env → H → Prop} {v v' : V} (he : e = e') (hh : h = h') (hv : v = v') : condW P C a b e h Q v = condW P C a b e' h' Q v' := by rw [he, hh, hv]
@[congr] theorem runS_congr {call : CallT} {P : Program} {ops : List Oper} {n n' : Nat} {ctx : Option (Nat × Bool)} {l : List Oper} {e e' : Env} {h h' : H} (hn : n = n') (he : e = e') (hh : h = h') : runOps call P ops n ctx l e h = runOps call P ops n' ctx l e' h' := by rw [hn, he, hh]
@[congr] theorem stepS_congr {call : CallT} {P : Program} {o : Oper} {ρ ρ' : Operand → V} {h h' : H} (hp : ρ = ρ') (hh : h = h') : step call P o ρ h = step call P o ρ' h' := by rw [hp, hh]
theorem W_regionL {P : Program} {C : CallT} {id : Nat} {l : List Oper} {e : Env} {h : H} {Q : Ex → Env → H → Prop} : W P C (.region id (List.toArray l) false) e h Q ↔ Ok (runOps (Does P C) P l l.length none l e h) fun r => Q .normal r.1 r.2 := by
  rw [W_region]
  simp only [List.size_toArray]
attribute [simp] Ok_some Ok_none Ok_bind Ok_map Ok_if_none Ok_none_if W_skip W_ret W_exit andThen_normal andThen_ret andThen_exit blockEnd_normal blockEnd_ret blockEnd_exit
  W_seq W_block W_cond condW_dec condW_bool W_regionL handed_ret handed_normal run_nil run_cons do_move do_assign do_bin do_un do_len do_min do_max do_call min_int max_int
  ev_tmp ev_const ev_func put_some put_none upd_ne upd_same get_mk set_mk len_mk getD_get get_zero get_succ get_nil results_nil results_tmp results_cell tupOf_one leave_same bin_shl bin_shr

section
variable {P : Program} {C : CallT} {t : TypeId} {k : IntKind} {x y : Int}
@[simp] theorem bin_add : binV P .add t (.int k x) (.int k y) = some (.int k (k.wrap (x + y))) := by simp [binV, intOp]
@[simp] theorem bin_sub : binV P .sub t (.int k x) (.int k y) = some (.int k (k.wrap (x - y))) := by simp [binV, intOp]
@[simp] theorem bin_mul : binV P .mul t (.int k x) (.int k y) = some (.int k (k.wrap (x * y))) := by simp [binV, intOp]
@[simp] theorem bin_quo : binV P .quo t (.int k x) (.int k y) = if y = 0 then none else some (.int k (k.wrap (x.tdiv y))) := by simp [binV, intOp]
@[simp] theorem bin_rem : binV P .rem t (.int k x) (.int k y) = if y = 0 then none else some (.int k (x.tmod y)) := by simp [binV, intOp]
@[simp] theorem bin_eql : binV P .eql t (.int k x) (.int k y) = some (.bool (decide (x = y))) := by simp [binV, intOp, BEq.beq]
@[simp] theorem bin_neq : binV P .neq t (.int k x) (.int k y) = some (.bool (decide (x ≠ y))) := by simp [binV, intOp, bne, BEq.beq]
@[simp] theorem bin_lss : binV P .lss t (.int k x) (.int k y) = some (.bool (decide (x < y))) := by simp [binV, intOp]
@[simp] theorem bin_leq : binV P .leq t (.int k x) (.int k y) = some (.bool (decide (x ≤ y))) := by simp [binV, intOp]
@[simp] theorem bin_gtr : binV P .gtr t (.int k x) (.int k y) = some (.bool (decide (x > y))) := by simp [binV, intOp]
@[simp] theorem bin_geq : binV P .geq t (.int k x) (.int k y) = some (.bool (decide (x ≥ y))) := by simp [binV, intOp]
@[simp] theorem bin_and : binV P .and t (.int k x) (.int k y) = (bitsOp .and k x y).map (.int k) := by simp [binV, intOp]
@[simp] theorem bin_or : binV P .or t (.int k x) (.int k y) = (bitsOp .or k x y).map (.int k) := by simp [binV, intOp]
@[simp] theorem bin_xor : binV P .xor t (.int k x) (.int k y) = (bitsOp .xor k x y).map (.int k) := by simp [binV, intOp]
end

end Go.Hl
end
section
/-! Hl: more rules that a walk uses by itself. -/
namespace Go.Hl
section
variable {P : Program} {C : CallT} {call : CallT} {d : Option Tmp} {t s u : TypeId} {p : String} {a : Array Edge} {g : Option (Nat × Bool)} {ρ : Operand → V} {h : H} {x y : Operand} {i : TI}

@[simp] theorem ok_optNone {n m : Nat} {Q : Nat → Prop} : Ok (optIdx n m none) Q ↔ Q m := Ok_some
@[simp] theorem ok_optSome {n m : Nat} {k : IntKind} {j : Int} {Q : Nat → Prop} : Ok (optIdx n m (some (.int k j))) Q ↔ (0 ≤ j ∧ j ≤ n) ∧ Q j.toNat := by
  simp only [optIdx, idx, Ok_if_none, Ok_some]
@[simp] theorem ok_idxLt {n : Nat} {k : IntKind} {j : Int} {Q : Nat → Prop} : Ok (idxLt n (.int k j)) Q ↔ (0 ≤ j ∧ j < n) ∧ Q j.toNat := by
  simp only [idxLt, Ok_if_none, Ok_some]

/-- Operations on values, by their type. -/
def indexV (i : TI) (x y : V) : Option V := match i.d, x with
  | .str, .str s => match idxLt s.length y with
    | some j => some (.int .u8 (s.getD j 0).toNat)
    | none => none
  | .arr n esz g, .agg l => match idxLt n y with
    | some j => pureOp.partOf l (j * esz) esz g
    | none => none
  | _, _ => none
def sliceV (i : TI) (x : V) (lo hi : Option V) : Option V := match i.d, x with
  | .str, .str s => match optIdx s.length s.length hi with
    | some h => match optIdx h 0 lo with
      | some l => some (.str ((s.take h).drop l))
      | none => none
    | none => none
  | .slice _ esz _, .sl b off len ver ez lim => match optIdx len len hi with
    | some h => match optIdx h 0 lo with
      | some l => if (lim = true ∧ h < len) ∨ ez ≠ esz then none else some (.sl b (off + l * esz) (h - l) ver esz lim)
      | none => none
    | none => none
  | .slice _ _ _, .nils => match optIdx 0 0 hi with
    | some h => match optIdx h 0 lo with
      | some _ => some .nils
      | none => none
    | none => none
  | _, _ => none
def convV (k' : IntKind) : V → Option V
  | .int _ n => some (.int k' (k'.wrap n))
  | _ => none
def fieldV (i : TI) (x : V) (f : Nat) : Option V := match i.d, x with
  | .struct fs, .agg l => match fs[f]? with
    | some q => pureOp.partOf l q.1 q.2.1 q.2.2
    | none => none
  | _, _ => none
def fieldAddrV (i : TI) (x : V) (f : Nat) : Option V := match i.d, x with
  | .struct fs, .ptr b off ver z => match fs[f]? with
    | some q => some (.ptr b (off + q.1) ver z)
    | none => none
  | _, _ => none
def indexAddrV (i : TI) (x y : V) : Option V := match i.d, x with
  | .slice _ esz _, .sl b off len ver ez _ => match idxLt len y with
    | some j => if ez = esz then some (.ptr b (off + j * esz) ver (off + j * esz + esz)) else none
    | none => none
  | .arr n esz _, .ptr b off ver z => match idxLt n y with
    | some j => if off + n * esz ≤ z then some (.ptr b (off + j * esz) ver (off + j * esz + esz)) else none
    | none => none
  | _, _ => none
def extractV (i : Nat) : V → Option V
  | .tup l => l[i]?
  | _ => none

section
variable {Q : V × H → Prop}
theorem do_index' (ht : ti P s = some i) : Ok (step call P ⟨d, .index s x y, t, p, a, g⟩ ρ h) Q ↔ Ok (indexV i (ρ x) (ρ y)) fun v => Q (v, h) := by
  rw [do_pure rfl]
  simp only [pureOp, ht]
  rfl
theorem do_slice' {lo hi : Option Operand} (ht : ti P s = some i) : Ok (step call P ⟨d, .slice s x lo hi none, t, p, a, g⟩ ρ h) Q ↔ Ok (sliceV i (ρ x) (lo.map ρ) (hi.map ρ)) fun v => Q (v, h) := by
  rw [do_pure rfl]
  simp only [pureOp, ht]
  rfl
theorem do_field' {f : Nat} (ht : ti P s = some i) : Ok (step call P ⟨d, .field s x f, t, p, a, g⟩ ρ h) Q ↔ Ok (fieldV i (ρ x) f) fun v => Q (v, h) := by
  rw [do_pure rfl]
  simp only [pureOp, ht]
  rfl
theorem do_fieldAddr' {f : Nat} (ht : ti P s = some i) : Ok (step call P ⟨d, .fieldAddr s x f, t, p, a, g⟩ ρ h) Q ↔ Ok (fieldAddrV i (ρ x) f) fun v => Q (v, h) := by
  rw [do_pure rfl]
  simp only [pureOp, ht]
  rfl
theorem do_indexAddr' (ht : ti P s = some i) : Ok (step call P ⟨d, .indexAddr s x y, t, p, a, g⟩ ρ h) Q ↔ Ok (indexAddrV i (ρ x) (ρ y)) fun v => Q (v, h) := by
  rw [do_pure rfl]
  simp only [pureOp, ht]
  rfl
theorem do_extract' {j : Nat} {z : Operand} : Ok (step call P ⟨d, .extract z j, t, p, a, g⟩ ρ h) Q ↔ Ok (extractV j (ρ z)) fun v => Q (v, h) := by
  rw [do_pure rfl]
  rfl
theorem do_conv' {k k' : IntKind} (hs : P.underlying s = some (.int k)) (hu : P.underlying u = some (.int k')) :
    Ok (step call P ⟨d, .convert s u x, t, p, a, g⟩ ρ h) Q ↔ Ok (convV k' (ρ x)) fun v => Q (v, h) := by
  rw [do_pure (by simp [kindOf, hs, hu])]
  simp only [pureOp, hs, hu]
  cases ρ x <;> rfl
end

@[simp] theorem index_str {l : List UInt8} {Q : V → Prop} {z : List V} {n m : Nat} {b : Bool} {y : V} :
    Ok (indexV ⟨n, b, m, z, .str⟩ (.str l) y) Q ↔ Ok (idxLt l.length y) fun j => Q (.int .u8 (l.getD j 0).toNat) := by
  simp only [indexV]
  cases idxLt l.length y <;> simp
@[simp] theorem index_arr {l : List V} {Q : V → Prop} {z : List V} {n m k : Nat} {b : Bool} {y : V} :
    Ok (indexV ⟨n, b, m, z, .arr k 1 false⟩ (.agg l) y) Q ↔ Ok (idxLt k y) fun j => j + 1 ≤ l.length ∧ Ok l[j]? Q := by
  simp only [indexV]
  cases idxLt k y <;> simp [pureOp.partOf]
@[simp] theorem slice_str {l : List UInt8} {lo hi : Option V} {Q : V → Prop} {z : List V} {n m : Nat} {b : Bool} :
    Ok (sliceV ⟨n, b, m, z, .str⟩ (.str l) lo hi) Q ↔ Ok (optIdx l.length l.length hi) fun e => Ok (optIdx e 0 lo) fun j => Q (.str ((l.take e).drop j)) := by
  simp only [sliceV]
  cases optIdx l.length l.length hi with
  | none => simp
  | some e =>
    simp only [Ok_some]
    cases optIdx e 0 lo <;> simp
@[simp] theorem slice_sl {o len ver ez : Nat} {lim : Bool} {c : Nat} {lo hi : Option V} {Q : V → Prop} {z : List V} {n m eb : Nat} {b : Bool} {et : TypeId} :
    Ok (sliceV ⟨n, b, m, z, .slice et ez eb⟩ (.sl c o len ver ez lim) lo hi) Q ↔ Ok (optIdx len len hi) fun e => Ok (optIdx e 0 lo) fun j => ¬ (lim = true ∧ e < len) ∧ Q (.sl c (o + j * ez) (e - j) ver ez lim) := by
  simp only [sliceV]
  cases optIdx len len hi with
  | none => simp
  | some e =>
    simp only [Ok_some]
    cases optIdx e 0 lo <;> simp
@[simp] theorem slice_nils {lo hi : Option V} {Q : V → Prop} {z : List V} {n m ez eb : Nat} {b : Bool} {et : TypeId} :
    Ok (sliceV ⟨n, b, m, z, .slice et ez eb⟩ .nils lo hi) Q ↔ Ok (optIdx 0 0 hi) fun e => Ok (optIdx e 0 lo) fun _ => Q .nils := by
  simp only [sliceV]
  cases optIdx 0 0 hi with
  | none => simp
  | some e =>
    simp only [Ok_some]
    cases optIdx e 0 lo <;> simp
@[simp] theorem conv_int {k k' : IntKind} {n : Int} {Q : V → Prop} : Ok (convV k' (.int k n)) Q ↔ Q (.int k' (k'.wrap n)) := by simp [convV]
@[simp] theorem extract_tup {l : List V} {j : Nat} {Q : V → Prop} : Ok (extractV j (.tup l)) Q ↔ Ok l[j]? Q := Iff.rfl
@[simp] theorem indexAddr_sl {o len ver ez : Nat} {lim : Bool} {c : Nat} {y : V} {Q : V → Prop} {z : List V} {n m eb : Nat} {b : Bool} {et : TypeId} :
    Ok (indexAddrV ⟨n, b, m, z, .slice et ez eb⟩ (.sl c o len ver ez lim) y) Q ↔ Ok (idxLt len y) fun j => Q (.ptr c (o + j * ez) ver (o + j * ez + ez)) := by
  simp only [indexAddrV]
  cases idxLt len y <;> simp
@[simp] theorem indexAddr_arr {o ver ez w : Nat} {c : Nat} {y : V} {Q : V → Prop} {z : List V} {n m len : Nat} {b f : Bool} :
    Ok (indexAddrV ⟨n, b, m, z, .arr len ez f⟩ (.ptr c o ver w) y) Q ↔ Ok (idxLt len y) fun j => o + len * ez ≤ w ∧ Q (.ptr c (o + j * ez) ver (o + j * ez + ez)) := by
  simp only [indexAddrV]
  cases idxLt len y <;> simp
@[simp] theorem fieldAddr_ptr {o ver w : Nat} {c : Nat} {f : Nat} {Q : V → Prop} {z : List V} {n m : Nat} {b : Bool} {fs : List (Nat × Nat × Bool)} :
    Ok (fieldAddrV ⟨n, b, m, z, .struct fs⟩ (.ptr c o ver w) f) Q ↔ Ok fs[f]? fun q => Q (.ptr c (o + q.1) ver w) := by
  simp only [fieldAddrV]
  cases fs[f]? <;> simp
@[simp] theorem field_agg {l : List V} {f : Nat} {Q : V → Prop} {z : List V} {n m : Nat} {b : Bool} {fs : List (Nat × Nat × Bool)} :
    Ok (fieldV ⟨n, b, m, z, .struct fs⟩ (.agg l) f) Q ↔ Ok fs[f]? fun q => Ok (pureOp.partOf l q.1 q.2.1 q.2.2) Q := by
  simp only [fieldV]
  cases fs[f]? <;> simp

/-- A region whose order is open, where nothing reads beside what acts. -/
theorem lex_plain {ops : List Oper} : ∀ (l : List Oper) (n : Nat) (sk : List Bool) (e : Env) (h : H), l.length ≤ n → (∀ o ∈ l, o.guard = none) →
    (lexRun call P ops l sk e h).map (·.2) = runOps call P ops n none l e h
  | [], n, sk, e, h, _, _ => by cases n <;> simp [lexRun, runOps]
  | o :: l, 0, _, _, _, hn, _ => by simp at hn
  | o :: l, n + 1, sk, e, h, hn, hg => by
    have hg0 : o.guard = none := hg o (by simp)
    simp only [lexRun, runOps, skipOf, hg0, if_true, Option.bind_some, cond_false]
    cases hs : step call P o (ev e) h with
    | none => simp
    | some r =>
      simp only [Option.bind_some]
      rw [← lex_plain l n (sk ++ [false]) _ _ (by simpa using hn) fun o ho => hg o (by simp [ho])]
      cases lexRun call P ops l (sk ++ [false]) (put e o.dst r.1) r.2 <;> simp
theorem W_any {id : Nat} {ops : Array Oper} {e : Env} {Q : Ex → Env → H → Prop} (hf : floats P ops.toList (waits ops.toList []) = []) (hg : ops.toList.all (fun o => o.guard.isNone) = true) :
    W P C (.region id ops true) e h Q ↔ Ok (runOps (Does P C) P ops.toList ops.size none ops.toList e h) fun r => Q .normal r.1 r.2 := by
  unfold W
  rw [Exec_any, Ok_map, hf]
  have e1 : runAny (Does P C) P ops.toList [] e h = runOps (Does P C) P ops.toList ops.size none ops.toList e h := by
    rw [← lex_plain (ops := ops.toList) ops.toList ops.size [] e h (by simp) fun o ho => by
      have := List.all_eq_true.1 hg o ho
      simpa using this]
    unfold runAny
    cases lexRun (Does P C) P ops.toList ops.toList [] e h <;> simp
  rw [e1]
end

theorem W_anyL {P : Program} {C : CallT} {id : Nat} {l : List Oper} {e : Env} {h : H} {Q : Ex → Env → H → Prop} (hf : floats P l (waits l []) = []) (hg : l.all (fun o => o.guard.isNone) = true) :
    W P C (.region id (List.toArray l) true) e h Q ↔ Ok (runOps (Does P C) P l l.length none l e h) fun r => Q .normal r.1 r.2 := by
  rw [W_any (ops := List.toArray l) hf hg]
  simp only [List.size_toArray]
/-! ### Whole numbers -/
theorem wrap_u32 {n : Nat} (h : n < 4294967296) : IntKind.u32.wrap (n : Int) = n := by simp [IntKind.wrap, IntKind.bits, IntKind.signed]; omega
theorem wrap_u8 {n : Nat} : IntKind.u8.wrap (n : Int) = ((n % 256 : Nat) : Int) := by simp [IntKind.wrap, IntKind.bits, IntKind.signed]
theorem wrap_u16 {n : Nat} : IntKind.u16.wrap (n : Int) = ((n % 65536 : Nat) : Int) := by simp [IntKind.wrap, IntKind.bits, IntKind.signed]
theorem wrap_i64 {n : Int} (h0 : -9223372036854775808 ≤ n) (h1 : n < 9223372036854775808) : IntKind.i64.wrap n = n := by
  simp only [IntKind.wrap, IntKind.bits, IntKind.signed]
  simp
  split <;> omega
theorem xor_u32 {m n : Nat} (hm : m < 4294967296) (hn : n < 4294967296) : bitsOp .xor .u32 (m : Int) (n : Int) = some ((m ^^^ n : Nat) : Int) := by
  have h : m ^^^ n < 2 ^ 32 := Nat.xor_lt_two_pow hm hn
  show some (IntKind.wrap .u32 ((BitVec.ofInt 32 (m : Int) ^^^ BitVec.ofInt 32 (n : Int)).toNat : Int)) = _
  simp only [BitVec.ofInt_natCast, BitVec.toNat_xor, BitVec.toNat_ofNat]
  rw [Nat.mod_eq_of_lt hm, Nat.mod_eq_of_lt hn, wrap_u32 h]
theorem xor_u8 {m n : Nat} (hm : m < 256) (hn : n < 256) : bitsOp .xor .u8 (m : Int) (n : Int) = some ((m ^^^ n : Nat) : Int) := by
  have h : m ^^^ n < 2 ^ 8 := Nat.xor_lt_two_pow hm hn
  show some (IntKind.wrap .u8 ((BitVec.ofInt 8 (m : Int) ^^^ BitVec.ofInt 8 (n : Int)).toNat : Int)) = _
  simp only [BitVec.ofInt_natCast, BitVec.toNat_xor, BitVec.toNat_ofNat]
  rw [Nat.mod_eq_of_lt hm, Nat.mod_eq_of_lt hn, wrap_u8, Nat.mod_eq_of_lt h]
end Go.Hl
end
section
/-! Hl: memory, as a walk sees it; what stands under a guard. -/
namespace Go.Hl

theorem Ok.of {α : Type} {o : Option α} {Q : α → Prop} {a : α} (h : o = some a) (hq : Q a) : Ok o Q := ⟨a, h, hq⟩

@[simp] theorem new_mk {l : List Blk} {es : List (Nat × Nat)} {cs : List V} : H.new ⟨l, es⟩ cs = ⟨l ++ [⟨cs, 0, 0, false⟩], es⟩ := rfl
@[simp] theorem size_mk {l : List Blk} {es : List (Nat × Nat)} : H.size ⟨l, es⟩ = l.length := rfl
@[simp] theorem ok_read {l : List Blk} {es : List (Nat × Nat)} {b off ver n : Nat} {Q : List V → Prop} :
    Ok (H.read ⟨l, es⟩ b off ver n) Q ↔ Ok l[b]? fun k => (k.valid ≤ ver ∧ ver ≤ k.gen) ∧ Q ((k.cells.drop off).take n) := by
  simp only [H.read]
  cases l[b]? <;> simp
@[simp] theorem ok_write {l : List Blk} {es : List (Nat × Nat)} {b off ver : Nat} {vs : List V} {Q : H → Prop} :
    Ok (H.write ⟨l, es⟩ b off ver vs) Q ↔ Ok l[b]? fun k => (k.ro = false ∧ ver = k.gen ∧ off + vs.length ≤ k.cells.length ∧ vs.all V.cellOk = true) ∧
      Q ⟨l.set b ⟨splice k.cells off vs, k.gen, k.gen, k.ro⟩, es ++ escs b vs⟩ := by
  simp only [H.write]
  cases l[b]? <;> simp
@[simp] theorem ok_grow {l : List Blk} {es : List (Nat × Nat)} {b ver : Nat} {vs : List V} {Q : H → Prop} :
    Ok (H.grow ⟨l, es⟩ b ver vs) Q ↔ Ok l[b]? fun k => (k.ro = false ∧ ver = k.gen ∧ vs.all V.cellOk = true) ∧
      Q ⟨l.set b ⟨k.cells ++ vs, k.gen + 1, k.valid, k.ro⟩, es ++ escs b vs⟩ := by
  simp only [H.grow]
  cases l[b]? <;> simp
@[simp] theorem at_zero {l m : List Blk} : (l ++ m)[l.length]? = m[0]? := by
  rw [List.getElem?_append_right (Nat.le_refl _), Nat.sub_self]
@[simp] theorem at_add {l m : List Blk} {i : Nat} : (l ++ m)[l.length + i]? = m[i]? := by
  rw [List.getElem?_append_right (by omega)]
  congr 1
  omega
theorem at_old {l m : List Blk} {b : Nat} {k : Blk} (h : l[b]? = some k) : (l ++ m)[b]? = some k := by
  rw [List.getElem?_append_left (List.getElem?_eq_some_iff.1 h).1, h]
@[simp] theorem set_zero {l m : List Blk} {k : Blk} : (l ++ m).set l.length k = l ++ m.set 0 k := by
  rw [List.set_append_right _ _ (Nat.le_refl _), Nat.sub_self]
@[simp] theorem set_add {l m : List Blk} {k : Blk} {i : Nat} : (l ++ m).set (l.length + i) k = l ++ m.set i k := by
  rw [List.set_append_right _ _ (by omega)]
  congr 2
  omega

theorem leave_new {h : H} {m : List Blk} {es : List (Nat × Nat)} {v : V} (hv : V.under h.size v = true) (hes : es.all (fun x => decide (h.size ≤ x.1)) = true) : leave h ⟨h.blks ++ m, es⟩ v = h := by
  unfold leave
  have h1 : es.all (fun x => decide (h.size ≤ x.1) || decide (x.2 < h.size)) = true := by
    rw [List.all_eq_true] at hes ⊢
    intro x hx
    simp [hes x hx]
  have h2 : es.filter (fun x => decide (x.1 < h.size)) = [] := by
    rw [List.filter_eq_nil_iff]
    intro x hx
    have := List.all_eq_true.1 hes x hx
    simp at this ⊢
    omega
  rw [if_pos (by simp only [Bool.and_eq_true]; exact ⟨hv, h1⟩)]
  simp only [h2, List.append_nil]
  rw [show h.size = h.blks.length from rfl, List.take_left]
theorem leave_keep {h : H} {m : List Blk} {es : List (Nat × Nat)} {v : V} (hv : V.under h.size v = false) : leave h ⟨m, es⟩ v = ⟨m, h.esc ++ es⟩ := by
  unfold leave
  rw [if_neg (by simp [hv])]

section
variable {P : Program} {C : CallT} {call : CallT} {d : Option Tmp} {t s u : TypeId} {p : String} {a : Array Edge} {g : Option (Nat × Bool)} {ρ : Operand → V} {h : H} {x y : Operand} {i : TI} {Q : V × H → Prop}

def readV (i : TI) (a : V) (h : H) : Option V := match a with
  | .ptr b off ver z => match h.read b off ver i.sz with
    | some l => if off + i.sz ≤ z then cond i.agg (some (.agg l)) l.head? else none
    | none => none
  | _ => none
theorem do_load' (ht : ti P s = some i) : Ok (step call P ⟨d, .load s x, t, p, a, g⟩ ρ h) Q ↔ Ok (readV i (ρ x) h) fun v => Q (v, h) := by
  rw [do_read rfl]
  simp only [readOp, readVar, ht]
  rfl
theorem ok_readVar {v : V} {Q : V → Prop} (ht : ti P s = some i) : Ok (readVar P s v h) Q ↔ Ok (readV i v h) Q := by
  simp only [readVar, ht]
  rfl
@[simp] theorem readV_one {b off ver z n : Nat} {zs : List V} {ty : Ty} {Q : V → Prop} : Ok (readV ⟨1, false, n, zs, ty⟩ (.ptr b off ver z) h) Q ↔ Ok (h.read b off ver 1) fun l => off + 1 ≤ z ∧ Ok l.head? Q := by
  simp only [readV]
  cases h.read b off ver 1 <;> simp
@[simp] theorem readV_agg {b off ver z n m : Nat} {zs : List V} {ty : Ty} {Q : V → Prop} : Ok (readV ⟨m, true, n, zs, ty⟩ (.ptr b off ver z) h) Q ↔ Ok (h.read b off ver m) fun l => off + m ≤ z ∧ Q (.agg l) := by
  simp only [readV]
  cases h.read b off ver m <;> simp

theorem do_alloc' (ht : ti P s = some i) : Ok (step call P ⟨d, .alloc s, t, p, a, g⟩ ρ h) Q ↔ i.zero.all V.cellOk = true ∧ Q (.ptr h.size 0 0 i.zero.length, h.new i.zero) := by
  rw [do_act rfl]
  simp only [actOp, ht, Ok_if_none, Ok_some]
theorem do_box' : Ok (step call P ⟨d, .box s x, t, p, a, g⟩ ρ h) Q ↔ (ρ x).cells.all V.cellOk = true ∧ Q (.ptr h.size 0 0 (ρ x).cells.length, h.new (ρ x).cells) := by
  rw [do_act rfl]
  simp only [actOp, Ok_if_none, Ok_some]
def storeV (sz : Nat) (h : H) (v : V) : V → Option H
  | .ptr b off ver z => if v.cells.length = sz ∧ off + sz ≤ z then h.write b off ver v.cells else none
  | _ => none
theorem do_store' (ht : ti P s = some i) : Ok (step call P ⟨d, .store s x y, t, p, a, g⟩ ρ h) Q ↔ Ok (storeV i.sz h (ρ y) (ρ x)) fun h' => Q (.undef, h') := by
  rw [do_act rfl]
  simp only [actOp, ht]
  cases ρ x <;> simp [storeV]
@[simp] theorem storeV_ptr {sz b off ver z : Nat} {v : V} {Q : H → Prop} : Ok (storeV sz h v (.ptr b off ver z)) Q ↔ (v.cells.length = sz ∧ off + sz ≤ z) ∧ Ok (h.write b off ver v.cells) Q := by
  simp only [storeV, Ok_if_none]

/-! ### Guards -/
def pickAt (c : Tmp) : List Oper → Option (List Oper × Option Tmp × Operand × Operand × List Oper)
  | [] => none
  | o :: l => match o.op with
    | .pick (.tmp d) x y => if d = c then some ([], o.dst, x, y, l) else (pickAt c l).map fun r => (o :: r.1, r.2)
    | _ => (pickAt c l).map fun r => (o :: r.1, r.2)
def boolOf : V → Option Bool
  | .bool b => some b
  | _ => none
@[simp] theorem boolOf_bool {b : Bool} {Q : Bool → Prop} : Ok (boolOf (.bool b)) Q ↔ Q b := by simp [boolOf]

theorem pickAt_ok (c : Tmp) : ∀ l : List Oper, match pickAt c l with
    | some (gr, dst, x, y, rest) => l.take (ahead c l) = gr ∧ ∃ t p a g z, l.drop (ahead c l) = ⟨dst, .pick z x y, t, p, a, g⟩ :: rest
    | none => l.drop (ahead c l) = []
  | [] => by simp [pickAt]
  | o :: l => by
    have ih := pickAt_ok c l
    have other : ahead c (o :: l) = ahead c l + 1 → pickAt c (o :: l) = (pickAt c l).map (fun r => (o :: r.1, r.2)) → match pickAt c (o :: l) with
        | some (gr, dst, x, y, rest) => (o :: l).take (ahead c (o :: l)) = gr ∧ ∃ t p a g z, (o :: l).drop (ahead c (o :: l)) = ⟨dst, .pick z x y, t, p, a, g⟩ :: rest
        | none => (o :: l).drop (ahead c (o :: l)) = [] := fun h1 h2 => by
      rw [h1, h2]
      cases hp : pickAt c l with
      | none =>
        rw [hp] at ih
        simpa using ih
      | some r =>
        obtain ⟨gr, dst, x, y, rest⟩ := r
        rw [hp] at ih
        obtain ⟨i1, i2⟩ := ih
        exact ⟨by simp [i1], by simpa using i2⟩
    obtain ⟨dst, op, ty, po, af, gd⟩ := o
    cases op with
    | pick z x y =>
      cases z with
      | tmp q =>
        by_cases hq : q = c
        · have h1 : pickAt c (⟨dst, .pick (.tmp q) x y, ty, po, af, gd⟩ :: l) = some ([], dst, x, y, l) := by simp [pickAt, hq]
          have h2 : ahead c (⟨dst, .pick (.tmp q) x y, ty, po, af, gd⟩ :: l) = 0 := by simp [ahead, hq]
          rw [h1, h2]
          exact ⟨rfl, ty, po, af, gd, .tmp q, rfl⟩
        · exact other (by simp [ahead, hq]) (by simp [pickAt, hq])
      | _ => exact other rfl rfl
    | _ => exact other rfl rfl

def isPick (c : Tmp) : Op → Option (Operand × Operand)
  | .pick (.tmp d) x y => if d = c then some (x, y) else none
  | _ => none
def pickGo (c : Tmp) : List Oper → List Oper → Option (List Oper × Option Tmp × Operand × Operand × List Oper)
  | _, [] => none
  | acc, o :: l => match isPick c o.op with
    | some (x, y) => some (acc.reverse, o.dst, x, y, l)
    | none => pickGo c (o :: acc) l
theorem pickGo_eq (c : Tmp) : ∀ l acc, pickGo c acc l = (pickAt c l).map fun r => (acc.reverse ++ r.1, r.2)
  | [], _ => rfl
  | o :: l, acc => by
    have ih := pickGo_eq c l (o :: acc)
    have other : isPick c o.op = none → pickAt c (o :: l) = (pickAt c l).map (fun r => (o :: r.1, r.2)) → pickGo c acc (o :: l) = (pickAt c (o :: l)).map fun r => (acc.reverse ++ r.1, r.2) := fun h1 h2 => by
      simp only [pickGo, h1, h2, ih, Option.map_map]
      congr 1
      funext r
      simp
    obtain ⟨dst, op, ty, po, af, gd⟩ := o
    cases op with
    | pick z x y =>
      cases z with
      | tmp q =>
        by_cases hq : q = c
        · simp [pickGo, isPick, pickAt, hq]
        · exact other (by simp [isPick, hq]) (by simp [pickAt, hq])
      | _ => exact other rfl rfl
    | _ => exact other rfl rfl
theorem pickGo_yes {c : Tmp} {acc l : List Oper} {x y : Operand} {t : TypeId} {p : String} {a : Array Edge} {g : Option (Nat × Bool)} {d : Option Tmp} : pickGo c acc (⟨d, .pick (.tmp c) x y, t, p, a, g⟩ :: l) = some (acc.reverse, d, x, y, l) := by simp [pickGo, isPick]

theorem run_groupA {ops rest : List Oper} {n q : Nat} {w : Bool} {ctx : Option (Nat × Bool)} {e : Env} {op : Op} {Q : Env × H → Prop} (hne : some (q, w) ≠ ctx) :
    Ok (runOps call P ops (n + 1) ctx (⟨d, op, t, p, a, some (q, w)⟩ :: rest) e h) Q ↔
      Ok (dstOf ops q) fun c => Ok (boolOf (get e c)) fun b => Ok (pickAt c (⟨d, op, t, p, a, some (q, w)⟩ :: rest)) fun z =>
        if b = w then Ok (runOps call P ops n (some (q, w)) z.1 e h) fun r => Ok (runOps call P ops n ctx z.2.2.2.2 (put (forget z.1 e) z.2.1 (ev r.1 (cond w z.2.2.1 z.2.2.2.1))) r.2) Q
        else Ok (runOps call P ops n ctx z.2.2.2.2 (put (forget z.1 e) z.2.1 (ev (forget z.1 e) (cond w z.2.2.2.1 z.2.2.1))) h) Q := by
  have e1 : runOps call P ops (n + 1) ctx (⟨d, op, t, p, a, some (q, w)⟩ :: rest) e h = (dstOf ops q).bind fun c => (boolOf (get e c)).bind fun b => (pickAt c (⟨d, op, t, p, a, some (q, w)⟩ :: rest)).bind fun z =>
      (cond (b == w) ((runOps call P ops n (some (q, w)) z.1 e h).map fun r => (ev r.1 (cond w z.2.2.1 z.2.2.2.1), r.2)) (some (ev (forget z.1 e) (cond w z.2.2.2.1 z.2.2.1), h))).bind
        fun r => runOps call P ops n ctx z.2.2.2.2 (put (forget z.1 e) z.2.1 r.1) r.2 := by
    rw [runOps, if_neg hne]
    simp only
    cases hq : dstOf ops q with
    | none => rfl
    | some c =>
      simp only [Option.bind_some]
      rw [show e.getD c .undef = get e c from rfl]
      cases hb : get e c with
      | bool b =>
        simp only [boolOf, Option.bind_some]
        have hp := pickAt_ok c (⟨d, op, t, p, a, some (q, w)⟩ :: rest)
        cases hpp : pickAt c (⟨d, op, t, p, a, some (q, w)⟩ :: rest) with
        | none =>
          rw [hpp] at hp
          simp only at hp
          rw [hp]
          rfl
        | some z =>
          obtain ⟨gr, dst, x, y, rest'⟩ := z
          rw [hpp] at hp
          obtain ⟨h1, t', p', a', g', z', h2⟩ := hp
          rw [h2, h1]
          rfl
      | _ => rfl
  rw [e1]
  rw [Ok_bind]
  refine Ok_iff fun c => ?_
  rw [Ok_bind]
  refine Ok_iff fun b => ?_
  rw [Ok_bind]
  refine Ok_iff fun z => ?_
  rw [Ok_bind]
  by_cases hb : b = w
  · subst hb
    simp
  · have : (b == w) = false := by simpa using hb
    rw [if_neg hb, this]
    simp
theorem run_group {ops rest : List Oper} {n q : Nat} {w : Bool} {ctx : Option (Nat × Bool)} {e : Env} {op : Op} {Q : Env × H → Prop} (hne : some (q, w) ≠ ctx) :
    Ok (runOps call P ops (n + 1) ctx (⟨d, op, t, p, a, some (q, w)⟩ :: rest) e h) Q ↔
      Ok (dstOf ops q) fun c => Ok (boolOf (get e c)) fun b => Ok (pickGo c [] (⟨d, op, t, p, a, some (q, w)⟩ :: rest)) fun z =>
        if b = w then Ok (runOps call P ops n (some (q, w)) z.1 e h) fun r => Ok (runOps call P ops n ctx z.2.2.2.2 (put (forget z.1 e) z.2.1 (ev r.1 (cond w z.2.2.1 z.2.2.2.1))) r.2) Q
        else Ok (runOps call P ops n ctx z.2.2.2.2 (put (forget z.1 e) z.2.1 (ev (forget z.1 e) (cond w z.2.2.2.1 z.2.2.1))) h) Q := by
  rw [run_groupA hne]
  refine Ok_iff fun c => Ok_iff fun b => ?_
  have : ∀ l, pickGo c [] l = pickAt c l := fun l => by rw [pickGo_eq]; simp
  rw [this]
@[congr] theorem dstOf_congr {ops : List Oper} {q : Nat} : dstOf ops q = dstOf ops q := rfl
theorem dstOf_zero {o : Oper} {l : List Oper} : dstOf (o :: l) 0 = o.dst := rfl
theorem dstOf_succ {o : Oper} {l : List Oper} {q : Nat} : dstOf (o :: l) (q + 1) = dstOf l q := rfl
@[congr] theorem forget_congr {l : List Oper} {e e' : Env} (h : e = e') : forget l e = forget l e' := by rw [h]
@[simp] theorem forget_nil {e : Env} : forget [] e = e := rfl
@[simp] theorem forget_cons {o : Oper} {l : List Oper} {e : Env} : forget (o :: l) e = forget l (put e o.dst .undef) := rfl
end
@[simp] theorem cells_int {k : IntKind} {n : Int} : V.cells (.int k n) = [.int k n] := rfl
@[simp] theorem cells_str {l : List UInt8} : V.cells (.str l) = [.str l] := rfl
@[simp] theorem cells_bool {b : Bool} : V.cells (.bool b) = [.bool b] := rfl
@[simp] theorem cells_nils : V.cells .nils = [.nils] := rfl
@[simp] theorem cells_nilp : V.cells .nilp = [.nilp] := rfl
@[simp] theorem cells_sl {b o n v z : Nat} {l : Bool} : V.cells (.sl b o n v z l) = [.sl b o n v z l] := rfl
@[simp] theorem cells_ptr {b o n v : Nat} : V.cells (.ptr b o n v) = [.ptr b o n v] := rfl
@[simp] theorem cells_agg {l : List V} : V.cells (.agg l) = l := rfl
attribute [simp] pickGo_yes dstOf_zero dstOf_succ
section
variable {c : Tmp} {x y : Operand} {t s u : TypeId} {n : Nat} {ps : Array (Nat × Operand)} {o : BinOp} {o' : UnOp} {f : Fn} {xs ys : Array Operand} {lo hi m : Option Operand} {cl : Go.Call} {acc l : List Oper} {p : String} {a : Array Edge} {g : Option (Nat × Bool)} {d : Option Tmp}
@[simp] theorem pickGo_move : pickGo c acc (⟨d, .move x, t, p, a, g⟩ :: l) = pickGo c (⟨d, .move x, t, p, a, g⟩ :: acc) l := rfl
@[simp] theorem pickGo_assign : pickGo c acc (⟨d, .assign x, t, p, a, g⟩ :: l) = pickGo c (⟨d, .assign x, t, p, a, g⟩ :: acc) l := rfl
@[simp] theorem pickGo_alloc : pickGo c acc (⟨d, .alloc s, t, p, a, g⟩ :: l) = pickGo c (⟨d, .alloc s, t, p, a, g⟩ :: acc) l := rfl
@[simp] theorem pickGo_box : pickGo c acc (⟨d, .box s x, t, p, a, g⟩ :: l) = pickGo c (⟨d, .box s x, t, p, a, g⟩ :: acc) l := rfl
@[simp] theorem pickGo_build : pickGo c acc (⟨d, .build s ps, t, p, a, g⟩ :: l) = pickGo c (⟨d, .build s ps, t, p, a, g⟩ :: acc) l := rfl
@[simp] theorem pickGo_buildSlice : pickGo c acc (⟨d, .buildSlice s n ps, t, p, a, g⟩ :: l) = pickGo c (⟨d, .buildSlice s n ps, t, p, a, g⟩ :: acc) l := rfl
@[simp] theorem pickGo_load : pickGo c acc (⟨d, .load s x, t, p, a, g⟩ :: l) = pickGo c (⟨d, .load s x, t, p, a, g⟩ :: acc) l := rfl
@[simp] theorem pickGo_store : pickGo c acc (⟨d, .store s x y, t, p, a, g⟩ :: l) = pickGo c (⟨d, .store s x y, t, p, a, g⟩ :: acc) l := rfl
@[simp] theorem pickGo_nilCheck : pickGo c acc (⟨d, .nilCheck x, t, p, a, g⟩ :: l) = pickGo c (⟨d, .nilCheck x, t, p, a, g⟩ :: acc) l := rfl
@[simp] theorem pickGo_binOp : pickGo c acc (⟨d, .binOp o s x y u, t, p, a, g⟩ :: l) = pickGo c (⟨d, .binOp o s x y u, t, p, a, g⟩ :: acc) l := rfl
@[simp] theorem pickGo_unOp : pickGo c acc (⟨d, .unOp o' s x, t, p, a, g⟩ :: l) = pickGo c (⟨d, .unOp o' s x, t, p, a, g⟩ :: acc) l := rfl
@[simp] theorem pickGo_convert : pickGo c acc (⟨d, .convert s u x, t, p, a, g⟩ :: l) = pickGo c (⟨d, .convert s u x, t, p, a, g⟩ :: acc) l := rfl
@[simp] theorem pickGo_makeInterface : pickGo c acc (⟨d, .makeInterface s x, t, p, a, g⟩ :: l) = pickGo c (⟨d, .makeInterface s x, t, p, a, g⟩ :: acc) l := rfl
@[simp] theorem pickGo_makeFunc : pickGo c acc (⟨d, .makeFunc f xs ys, t, p, a, g⟩ :: l) = pickGo c (⟨d, .makeFunc f xs ys, t, p, a, g⟩ :: acc) l := rfl
@[simp] theorem pickGo_makeSlice : pickGo c acc (⟨d, .makeSlice s x y, t, p, a, g⟩ :: l) = pickGo c (⟨d, .makeSlice s x y, t, p, a, g⟩ :: acc) l := rfl
@[simp] theorem pickGo_slice : pickGo c acc (⟨d, .slice s x lo hi m, t, p, a, g⟩ :: l) = pickGo c (⟨d, .slice s x lo hi m, t, p, a, g⟩ :: acc) l := rfl
@[simp] theorem pickGo_fieldAddr : pickGo c acc (⟨d, .fieldAddr s x n, t, p, a, g⟩ :: l) = pickGo c (⟨d, .fieldAddr s x n, t, p, a, g⟩ :: acc) l := rfl
@[simp] theorem pickGo_field : pickGo c acc (⟨d, .field s x n, t, p, a, g⟩ :: l) = pickGo c (⟨d, .field s x n, t, p, a, g⟩ :: acc) l := rfl
@[simp] theorem pickGo_indexAddr : pickGo c acc (⟨d, .indexAddr s x y, t, p, a, g⟩ :: l) = pickGo c (⟨d, .indexAddr s x y, t, p, a, g⟩ :: acc) l := rfl
@[simp] theorem pickGo_index : pickGo c acc (⟨d, .index s x y, t, p, a, g⟩ :: l) = pickGo c (⟨d, .index s x y, t, p, a, g⟩ :: acc) l := rfl
@[simp] theorem pickGo_extract : pickGo c acc (⟨d, .extract x n, t, p, a, g⟩ :: l) = pickGo c (⟨d, .extract x n, t, p, a, g⟩ :: acc) l := rfl
@[simp] theorem pickGo_call : pickGo c acc (⟨d, .call cl, t, p, a, g⟩ :: l) = pickGo c (⟨d, .call cl, t, p, a, g⟩ :: acc) l := rfl
@[simp] theorem pickGo_pick {q : Tmp} (h : (q == c) = false) : pickGo c acc (⟨d, .pick (.tmp q) x y, t, p, a, g⟩ :: l) = pickGo c (⟨d, .pick (.tmp q) x y, t, p, a, g⟩ :: acc) l := by
  simp only [beq_eq_false_iff_ne] at h
  simp [pickGo, isPick, h]
end
end Go.Hl
end
section
/-! Hl: slices that are built, strings and bytes, tests. -/
namespace Go.Hl
section
variable {P : Program} {call : CallT} {d : Option Tmp} {t s u e : TypeId} {p : String} {a : Array Edge} {g : Option (Nat × Bool)} {ρ : Operand → V} {h : H} {x y : Operand} {i j : TI} {Q : V × H → Prop}

theorem do_buildSlice' {len n m esz eb : Nat} {b : Bool} {z : List V} {parts : Array (Nat × Operand)} (ht : ti P s = some ⟨n, b, m, z, .slice e esz eb⟩) (hj : ti P e = some j) :
    Ok (step call P ⟨d, .buildSlice s len parts, t, p, a, g⟩ ρ h) Q ↔ (parts.toList.any (fun p => (ρ p.2).isU) = false ∧ (len * esz ≤ 16777216 ∧ j.zero.length = esz ∧ 0 < esz)) ∧
      Ok (pureOp.fillA len esz (zeros j.zero len) (parts.toList.map fun p => (p.1, ρ p.2))) fun cells => cells.all V.cellOk = true ∧ Q (.sl h.size 0 len 0 esz false, h.new cells) := by
  rw [do_act rfl]
  simp only [actOp, ht, hj]
  by_cases hu : parts.toList.any (fun p => (ρ p.2).isU) = true
  · rw [if_pos hu]
    simp [hu]
  · rw [if_neg hu, Ok_if_none]
    rw [Bool.not_eq_true] at hu
    simp only [hu, true_and]
    cases pureOp.fillA len esz (zeros j.zero len) (parts.toList.map fun p => (p.1, ρ p.2)) <;> simp
@[simp] theorem fillA_nil {n esz : Nat} {cells : List V} {Q : List V → Prop} : Ok (pureOp.fillA n esz cells []) Q ↔ Q cells := by simp [pureOp.fillA]
@[simp] theorem fillA_cons {n esz k : Nat} {v : V} {r : List (Nat × V)} {cells : List V} {Q : List V → Prop} :
    Ok (pureOp.fillA n esz cells ((k, v) :: r)) Q ↔ (v.cells.length = esz ∧ k * esz + esz ≤ cells.length) ∧ Ok (pureOp.fillA n esz (splice cells (k * esz) v.cells) r) Q := by
  simp only [pureOp.fillA, Ok_if_none]
@[simp] theorem zeros_zero {z : List V} : zeros z 0 = [] := rfl
@[simp] theorem zeros_succ {z : List V} {n : Nat} : zeros z (n + 1) = z ++ zeros z n := rfl
@[simp] theorem isU_int {k : IntKind} {n : Int} : V.isU (.int k n) = false := by unfold V.isU; rfl
@[simp] theorem isU_str {l : List UInt8} : V.isU (.str l) = false := by unfold V.isU; rfl
@[simp] theorem isU_bool {b : Bool} : V.isU (.bool b) = false := by unfold V.isU; rfl
@[simp] theorem isU_nils : V.isU .nils = false := by unfold V.isU; rfl
@[simp] theorem isU_nilp : V.isU .nilp = false := by unfold V.isU; rfl
@[simp] theorem isU_sl {b o n v z : Nat} {l : Bool} : V.isU (.sl b o n v z l) = false := by unfold V.isU; rfl
@[simp] theorem isU_ptr {b o n v : Nat} : V.isU (.ptr b o n v) = false := by unfold V.isU; rfl
@[simp] theorem isU_agg {l : List V} : V.isU (.agg l) = false := by unfold V.isU; rfl
@[simp] theorem cellOk_int {k : IntKind} {n : Int} : V.cellOk (.int k n) = true := by unfold V.cellOk; rfl
@[simp] theorem cellOk_str {l : List UInt8} : V.cellOk (.str l) = true := by unfold V.cellOk; rfl
@[simp] theorem cellOk_bool {b : Bool} : V.cellOk (.bool b) = true := by unfold V.cellOk; rfl
@[simp] theorem cellOk_nils : V.cellOk .nils = true := by unfold V.cellOk; rfl
@[simp] theorem cellOk_nilp : V.cellOk .nilp = true := by unfold V.cellOk; rfl
@[simp] theorem cellOk_sl {b o n v z : Nat} {l : Bool} : V.cellOk (.sl b o n v z l) = true := by unfold V.cellOk; rfl
@[simp] theorem cellOk_ptr {b o n v : Nat} : V.cellOk (.ptr b o n v) = true := by unfold V.cellOk; rfl
@[simp] theorem under_sl {n b o m v z : Nat} {l : Bool} : V.under n (.sl b o m v z l) = decide (b < n) := by unfold V.under; rfl
@[simp] theorem under_ptr {n b o m v : Nat} : V.under n (.ptr b o m v) = decide (b < n) := by unfold V.under; rfl
@[simp] theorem under_agg {n : Nat} {l : List V} : V.under n (.agg l) = V.unders n l := by rw [V.under]
@[simp] theorem under_tup {n : Nat} {l : List V} : V.under n (.tup l) = V.unders n l := by rw [V.under]
@[simp] theorem unders_nil {n : Nat} : V.unders n [] = true := by rw [V.unders]
@[simp] theorem unders_cons {n : Nat} {v : V} {l : List V} : V.unders n (v :: l) = (V.under n v && V.unders n l) := by rw [V.unders]
@[simp] theorem under_nilf {n : Nat} : V.under n .nilf = true := by unfold V.under; rfl
@[simp] theorem under_nili {n : Nat} : V.under n .nili = true := by unfold V.under; rfl
@[simp] theorem under_fn {n : Nat} {f : Fn} {l m : List V} : V.under n (.fn f l m) = (V.unders n l && V.unders n m) := by rw [V.under]
@[simp] theorem under_int {n : Nat} {k : IntKind} {m : Int} : V.under n (.int k m) = true := by unfold V.under; rfl
@[simp] theorem under_str {n : Nat} {l : List UInt8} : V.under n (.str l) = true := by unfold V.under; rfl
@[simp] theorem under_bool {n : Nat} {b : Bool} : V.under n (.bool b) = true := by unfold V.under; rfl
@[simp] theorem under_nils {n : Nat} : V.under n .nils = true := by unfold V.under; rfl
@[simp] theorem under_nilp {n : Nat} : V.under n .nilp = true := by unfold V.under; rfl
@[simp] theorem upto_int {n : Nat} {k : IntKind} {m : Int} : V.upto n (.int k m) = [] := by unfold V.upto; rfl
@[simp] theorem upto_str {n : Nat} {l : List UInt8} : V.upto n (.str l) = [] := by unfold V.upto; rfl
@[simp] theorem upto_bool {n : Nat} {b : Bool} : V.upto n (.bool b) = [] := by unfold V.upto; rfl
@[simp] theorem upto_nils {n : Nat} : V.upto n .nils = [] := by unfold V.upto; rfl
@[simp] theorem upto_nilp {n : Nat} : V.upto n .nilp = [] := by unfold V.upto; rfl
attribute [simp] V.uptos escs

/-- Strings and bytes. -/
def bytesStrV (h : H) : V → Option V
  | .nils => some (.str [])
  | .sl b off len ver ez _ => match h.read b off ver len with
    | some l => if ez = 1 then (bytesOf l).map .str else none
    | none => none
  | _ => none
theorem do_bytesStr (hs : P.underlying s = some (.slice e)) (hu : P.underlying u = some .string) (he : P.underlying e = some (.int .u8)) :
    Ok (step call P ⟨d, .convert s u x, t, p, a, g⟩ ρ h) Q ↔ Ok (bytesStrV h (ρ x)) fun v => Q (v, h) := by
  rw [do_read (by simp [kindOf, hs, hu])]
  simp only [readOp, hs, hu, he]
  cases ρ x <;> rfl
@[simp] theorem bytesStr_nils {Q : V → Prop} : Ok (bytesStrV h .nils) Q ↔ Q (.str []) := by simp [bytesStrV]
@[simp] theorem bytesStr_sl {b o n v z : Nat} {l : Bool} {Q : V → Prop} : Ok (bytesStrV h (.sl b o n v z l)) Q ↔ Ok (h.read b o v n) fun l => z = 1 ∧ Ok (bytesOf l) fun r => Q (.str r) := by
  simp only [bytesStrV]
  cases h.read b o v n <;> simp
@[simp] theorem bytesOf_nil {Q : List UInt8 → Prop} : Ok (bytesOf []) Q ↔ Q [] := by simp [bytesOf]
@[simp] theorem bytesOf_cons {n : Int} {l : List V} {Q : List UInt8 → Prop} : Ok (bytesOf (.int .u8 n :: l)) Q ↔ Ok (bytesOf l) fun r => Q (UInt8.ofNat n.toNat :: r) := by simp [bytesOf]
theorem bytesOf_cells : ∀ l : List UInt8, bytesOf (byteCells l) = some l
  | [] => rfl
  | b :: l => by
    have := bytesOf_cells l
    simp only [byteCells, List.map_cons, bytesOf] at this ⊢
    rw [this]
    simp
def strBytesV (h : H) : V → Option (V × H)
  | .str l => some (.sl h.size 0 l.length 0 1 false, h.new (byteCells l))
  | _ => none
theorem do_strBytes {n m : Nat} {b : Bool} {z : List V} (hs : P.underlying s = some .string) (hu : P.underlying u = some (.slice e)) (ht : ti P u = some ⟨n, b, m, z, .slice e 1 1⟩) (he : P.underlying e = some (.int .u8)) :
    Ok (step call P ⟨d, .convert s u x, t, p, a, g⟩ ρ h) Q ↔ Ok (strBytesV h (ρ x)) Q := by
  rw [do_act (by simp [kindOf, hs, hu])]
  simp only [actOp, hs, ht]
  cases ρ x <;> simp [strBytesV, he]
@[simp] theorem strBytes_str {l : List UInt8} : Ok (strBytesV h (.str l)) Q ↔ Q (.sl h.size 0 l.length 0 1 false, h.new (byteCells l)) := by simp [strBytesV]

@[simp] theorem bin_add_str {x y : List UInt8} : binV P .add t (.str x) (.str y) = if x.length + y.length ≤ 9223372036854775807 then some (.str (x ++ y)) else none := rfl
@[simp] theorem bin_eql_str {x y : List UInt8} : binV P .eql t (.str x) (.str y) = some (.bool (decide (x = y))) := by
  by_cases h : x = y <;> simp [binV, strOp, h]
@[simp] theorem bin_neq_str {x y : List UInt8} : binV P .neq t (.str x) (.str y) = some (.bool (decide (x ≠ y))) := by
  by_cases h : x = y <;> simp [binV, strOp, h]
theorem bin_eql_bool {x y : Bool} (ht : P.underlying t = some .bool) : binV P .eql t (.bool x) (.bool y) = some (.bool (decide (x = y))) := by
  simp [binV, eqOp, ht, BEq.beq]
theorem bin_neq_bool {x y : Bool} (ht : P.underlying t = some .bool) : binV P .neq t (.bool x) (.bool y) = some (.bool (decide (x ≠ y))) := by
  simp [binV, eqOp, ht, BEq.beq]
@[simp] theorem un_not {b : Bool} : unV .not (.bool b) = some (.bool !b) := rfl
end

theorem fdiv_nat (n m : Nat) : (n : Int).fdiv (m : Int) = ((n / m : Nat) : Int) := by
  rw [Int.fdiv_eq_ediv_of_nonneg _ (by omega)]
  simp
theorem ok_shr {k : IntKind} {n : Nat} {y : Nat} {Q : V → Prop} : Ok (shiftOp .shr k (n : Int) (y : Int)) Q ↔ Q (.int k ((n / 2 ^ (min y k.bits) : Nat) : Int)) := by
  have h : ¬ ((y : Int) < 0) := by omega
  simp only [shiftOp]
  rw [if_neg h]
  simp only [Ok_some, Int.toNat_natCast]
  have := fdiv_nat n (2 ^ (min y k.bits))
  push_cast at this
  push_cast
  rw [this]
end Go.Hl
end
section
/-! Hl: rows of cells that are built; closed calls. -/
namespace Go.Hl
section
variable {P : Program} {C : CallT} {call : CallT} {d : Option Tmp} {t s u e : TypeId} {p : String} {a : Array Edge} {g : Option (Nat × Bool)} {ρ : Operand → V} {h : H} {x y : Operand} {i j : TI} {Q : V × H → Prop}

theorem do_build' {n m : Nat} {b : Bool} {z : List V} {fs : List (Nat × Nat × Bool)} {parts : Array (Nat × Operand)} (ht : ti P s = some ⟨n, b, m, z, .struct fs⟩) :
    Ok (step call P ⟨d, .build s parts, t, p, a, g⟩ ρ h) Q ↔ parts.toList.any (fun p => (ρ p.2).isU) = false ∧ Ok (pureOp.fillF fs z (parts.toList.map fun p => (p.1, ρ p.2))) fun l => Q (.agg l, h) := by
  rw [do_pure rfl]
  simp only [pureOp, ht]
  by_cases hu : parts.toList.any (fun p => (ρ p.2).isU) = true
  · rw [if_pos hu]
    simp [hu]
  · rw [if_neg hu]
    rw [Bool.not_eq_true] at hu
    simp only [hu, true_and, Ok_map]
@[simp] theorem fillF_nil {fs : List (Nat × Nat × Bool)} {cells : List V} {Q : List V → Prop} : Ok (pureOp.fillF fs cells []) Q ↔ Q cells := by simp [pureOp.fillF]
@[simp] theorem fillF_cons {fs : List (Nat × Nat × Bool)} {k : Nat} {v : V} {r : List (Nat × V)} {cells : List V} {Q : List V → Prop} :
    Ok (pureOp.fillF fs cells ((k, v) :: r)) Q ↔ Ok fs[k]? fun q => (v.cells.length = q.2.1 ∧ q.1 + q.2.1 ≤ cells.length) ∧ Ok (pureOp.fillF fs (splice cells q.1 v.cells) r) Q := by
  simp only [pureOp.fillF]
  cases fs[k]? with
  | none => simp
  | some q =>
    obtain ⟨o, n, z⟩ := q
    simp only [Ok_some, Ok_if_none]
end

/-- A closed call that the kernel ran. -/
def isTrue0 : Option (V × H) → Bool
  | some (.bool true, ⟨[], []⟩) => true
  | _ => false
def isInt0 (n : Int) : Option (V × H) → Bool
  | some (.int .i64 a, ⟨[], []⟩) => a == n
  | _ => false
def sameInt : Option (V × H) → Option (V × H) → Bool
  | some (.int .i64 a, ⟨[], []⟩), some (.int .i64 b, ⟨[], []⟩) => a == b
  | _, _ => false
theorem of_isTrue0 {P : Program} {C : CallT} {k : Nat} {f : FuncId} {args : List V} (h : isTrue0 (callF P C k f args ⟨[], []⟩) = true) : Does P C f args ⟨[], []⟩ = some (.bool true, ⟨[], []⟩) := by
  refine Does_iff.2 ⟨k, ?_⟩
  unfold isTrue0 at h
  split at h
  · assumption
  · cases h
theorem of_isInt0 {P : Program} {C : CallT} {k : Nat} {f : FuncId} {args : List V} {n : Int} (h : isInt0 n (callF P C k f args ⟨[], []⟩) = true) : Does P C f args ⟨[], []⟩ = some (.int .i64 n, ⟨[], []⟩) := by
  refine Does_iff.2 ⟨k, ?_⟩
  unfold isInt0 at h
  split at h
  · rename_i a hc
    rw [hc, eq_of_beq h]
  · cases h
theorem of_sameInt {P : Program} {C : CallT} {k k' : Nat} {f f' : FuncId} {args args' : List V} (h : sameInt (callF P C k f args ⟨[], []⟩) (callF P C k' f' args' ⟨[], []⟩) = true) :
    ∃ n, Does P C f args ⟨[], []⟩ = some (.int .i64 n, ⟨[], []⟩) ∧ Does P C f' args' ⟨[], []⟩ = some (.int .i64 n, ⟨[], []⟩) := by
  unfold sameInt at h
  split at h
  · rename_i a b h1 h2
    exact ⟨a, Does_iff.2 ⟨k, h1⟩, Does_iff.2 ⟨k', by rw [h2, eq_of_beq h]⟩⟩
  · cases h
theorem and_255 (x : Int) : ∃ n : Nat, n < 256 ∧ bitsOp .and .i64 x 255 = some (n : Int) := by
  refine ⟨(BitVec.ofInt 64 x &&& BitVec.ofInt 64 255).toNat, ?_, ?_⟩
  · rw [BitVec.toNat_and]
    have : (BitVec.ofInt 64 255).toNat = 255 := by decide
    rw [this]
    exact Nat.lt_succ_of_le Nat.and_le_right
  · have h : (BitVec.ofInt 64 x &&& BitVec.ofInt 64 255).toNat ≤ 255 := by
      rw [BitVec.toNat_and]
      have : (BitVec.ofInt 64 255).toNat = 255 := by decide
      rw [this]
      exact Nat.and_le_right
    show some (IntKind.i64.wrap ((BitVec.ofInt 64 x &&& BitVec.ofInt 64 255).toNat : Int)) = _
    rw [wrap_i64 (by omega) (by omega)]
end Go.Hl
end
section
/-! Hl: what is appended; slices as lists. -/
namespace Go.Hl
section
variable {P : Program} {C : CallT} {call : CallT} {d : Option Tmp} {t s u e : TypeId} {p : String} {a : Array Edge} {g : Option (Nat × Bool)} {ρ : Operand → V} {h : H} {x y : Operand} {i j : TI} {Q : V × H → Prop}

def appendV (esz eb : Nat) (h : H) (s x : V) : Option (V × H) :=
  match sourceOf h esz x with
  | some (m, ys) =>
    if m = 0 then (match s with
      | .nils => some (.nils, h)
      | .sl b off len ver ez lim => some (.sl b off len ver ez lim, h)
      | _ => none)
    else if 0 < esz ∧ (lenV s + m) * eb ≤ 70368744177664 ∧ lenV s + m ≤ 70368744177664 then appendTo h esz s m ys else none
  | none => none
theorem do_append' {n m esz eb : Nat} {b : Bool} {z : List V} {dd : TypeDesc} (ht : ti P t = some ⟨n, b, m, z, .slice e esz eb⟩) (hj : ti P e = some j) (hu : P.underlying u = some dd) (hz : j.zero.length = esz) (hd : isIntD dd = false) {tt : TypeId} :
    Ok (step call P ⟨d, .call { callee := .builtin .append, args := #[x, y], argTypes := #[t, u] }, tt, p, a, g⟩ ρ h) Q ↔ Ok (appendV esz eb h (ρ x) (ρ y)) Q := by
  rw [do_act rfl]
  simp only [actOp, ht, hu, hd, hj, appendV]
  cases hs : sourceOf h esz (ρ y) with
  | none => simp
  | some r =>
    obtain ⟨m', ys⟩ := r
    simp only [hz, ne_eq, not_true_eq_false, if_false, Bool.false_eq_true]
    exact Iff.rfl
/-- The source of an append that lies in memory. -/
theorem append_sl {esz eb b o n v : Nat} {lim : Bool} {s : V} : Ok (appendV esz eb h s (.sl b o n v esz lim)) Q ↔ Ok (h.read b o v (n * esz)) fun ys =>
    Ok (if n = 0 then (match s with
      | .nils => some (.nils, h)
      | .sl b off len ver ez lim => some (.sl b off len ver ez lim, h)
      | _ => none)
    else if 0 < esz ∧ (lenV s + n) * eb ≤ 70368744177664 ∧ lenV s + n ≤ 70368744177664 then appendTo h esz s n ys else none) Q := by
  simp only [appendV, sourceOf, if_true]
  cases h.read b o v (n * esz) <;> simp
@[simp] theorem lenV_sl {b o n v z : Nat} {l : Bool} : lenV (.sl b o n v z l) = n := rfl
@[simp] theorem lenV_nils : lenV .nils = 0 := rfl
@[simp] theorem appendTo_nils {esz m : Nat} {ys : List V} : Ok (appendTo h esz .nils m ys) Q ↔ ys.all V.cellOk = true ∧ Q (.sl h.size 0 m 0 esz false, h.new ys) := by
  simp only [appendTo, Ok_if_none, Ok_some]
@[simp] theorem appendTo_own {esz b off n ver m : Nat} {ys : List V} : Ok (appendTo h esz (.sl b off n ver esz false) m ys) Q ↔ Ok h.blks[b]? fun k =>
    Ok (if off + n * esz = k.cells.length then (h.grow b ver ys).map fun h' => (V.sl b off (n + m) (ver + 1) esz false, h')
        else if off + (n + m) * esz ≤ k.cells.length then (h.write b (off + n * esz) ver ys).map fun h' => (V.sl b off (n + m) ver esz false, h')
        else none) Q := by
  simp only [appendTo]
  cases h.blks[b]? <;> simp
end
def nilV : V → Option V
  | .ptr b o v z => some (.ptr b o v z)
  | _ => none
@[simp] theorem do_nilCheck {P : Program} {call : CallT} {d : Option Tmp} {t : TypeId} {p : String} {a : Array Edge} {g : Option (Nat × Bool)} {ρ : Operand → V} {h : H} {x : Operand} {Q : V × H → Prop} :
    Ok (step call P ⟨d, .nilCheck x, t, p, a, g⟩ ρ h) Q ↔ Ok (nilV (ρ x)) fun v => Q (v, h) := by
  rw [do_pure rfl]
  exact Iff.rfl
@[simp] theorem nilV_ptr {b o v z : Nat} {Q : V → Prop} : Ok (nilV (.ptr b o v z)) Q ↔ Q (.ptr b o v z) := by simp [nilV]
attribute [simp] do_extract' do_box'
@[simp] theorem tupOf_nil : tupOf [] = .tup [] := by unfold tupOf; rfl
@[simp] theorem tupOf_two {u v : V} {l : List V} : tupOf (u :: v :: l) = .tup (u :: v :: l) := by unfold tupOf; rfl
/-- The rest waits, behind a name. -/
theorem W_stop {P : Program} {C : CallT} {a b : Code} {e : Env} {h : H} {Q : Ex → Env → H → Prop} (hw : ∀ K : Env → H → Prop, (K = fun e' h' => W P C b e' h' Q) → W P C a e h (andThen K Q)) : W P C (.seq a b) e h Q := by
  rw [W_seq]
  exact hw _ rfl
/-- A loop, over temporaries as a function. -/
theorem W_loopM {P : Program} {C : CallT} {b : Code} {Q : Ex → Env → H → Prop} {n : Nat} (I : Nat → (Nat → V) → H → Prop)
    (hb : ∀ k σ h, I k σ h → W P C b (mk n σ) h (andThen (fun e' h' => e'.length = n ∧ ∃ m, m < k ∧ I m (get e') h') Q)) : ∀ k σ h, I k (get (mk n σ)) h → W P C (.loop b) (mk n σ) h Q := by
  intro k σ h hi
  refine W_loop (fun k e h => e.length = n ∧ I k (get e) h) ?_ k (mk n σ) h ⟨len_mk, hi⟩
  rintro k e h ⟨hl, hi⟩
  obtain ⟨σ, rfl⟩ := of_len hl
  have := hb k _ h hi
  rw [mk_get len_mk] at this
  refine this.mono ?_
  intro x e' h' hq
  cases x with
  | normal =>
    obtain ⟨h1, m, h2, h3⟩ := hq
    exact ⟨m, h2, h1, h3⟩
  | exit j => exact hq
  | ret => exact hq
/-! ### What stands under a guard -/
def pickK (c : Tmp) : List Oper → (List Oper → Option Tmp → Operand → Operand → List Oper → Prop) → Prop
  | [], _ => False
  | o :: l, K => match isPick c o.op with
    | some (x, y) => K [] o.dst x y l
    | none => pickK c l fun gr d x y r => K (o :: gr) d x y r
theorem pickK_iff (c : Tmp) : ∀ (l acc : List Oper) (K : List Oper → Option Tmp → Operand → Operand → List Oper → Prop), (Ok (pickGo c acc l) fun z => K z.1 z.2.1 z.2.2.1 z.2.2.2.1 z.2.2.2.2) ↔ pickK c l fun gr d x y r => K (acc.reverse ++ gr) d x y r
  | [], acc, K => by simp [pickGo, pickK]
  | o :: l, acc, K => by
    simp only [pickGo, pickK]
    cases isPick c o.op with
    | some xy => simp
    | none =>
      simp only
      rw [pickK_iff c l (o :: acc) K]
      simp
theorem pickK_fun {c : Tmp} : ∀ {l : List Oper} {K K' : List Oper → Option Tmp → Operand → Operand → List Oper → Prop}, (∀ gr d x y r, K gr d x y r ↔ K' gr d x y r) → (pickK c l K ↔ pickK c l K')
  | [], _, _, _ => Iff.rfl
  | o :: l, K, K', h => by
    simp only [pickK]
    cases isPick c o.op with
    | some xy => exact h _ _ _ _ _
    | none => exact pickK_fun fun gr d x y r => h _ _ _ _ _
@[congr] theorem pickK_congr {c : Tmp} {l : List Oper} {K : List Oper → Option Tmp → Operand → Operand → List Oper → Prop} : pickK c l K = pickK c l K := rfl
@[simp] theorem run_groupK {P : Program} {call : CallT} {d : Option Tmp} {t : TypeId} {p : String} {a : Array Edge} {h : H} {ops rest : List Oper} {n q : Nat} {w : Bool} {ctx : Option (Nat × Bool)} {e : Env} {op : Op} {Q : Env × H → Prop} (hne : some (q, w) ≠ ctx) :
    Ok (runOps call P ops (n + 1) ctx (⟨d, op, t, p, a, some (q, w)⟩ :: rest) e h) Q ↔
      Ok (dstOf ops q) fun c => Ok (boolOf (get e c)) fun b => pickK c (⟨d, op, t, p, a, some (q, w)⟩ :: rest) fun gr dst x y rest' =>
        if b = w then Ok (runOps call P ops n (some (q, w)) gr e h) fun r => Ok (runOps call P ops n ctx rest' (put (forget gr e) dst (ev r.1 (cond w x y))) r.2) Q
        else Ok (runOps call P ops n ctx rest' (put (forget gr e) dst (ev (forget gr e) (cond w y x))) h) Q := by
  rw [run_group hne]
  refine Ok_iff fun c => Ok_iff fun b => ?_
  have := pickK_iff c (⟨d, op, t, p, a, some (q, w)⟩ :: rest) [] fun gr dst x y rest' =>
        if b = w then Ok (runOps call P ops n (some (q, w)) gr e h) fun r => Ok (runOps call P ops n ctx rest' (put (forget gr e) dst (ev r.1 (cond w x y))) r.2) Q
        else Ok (runOps call P ops n ctx rest' (put (forget gr e) dst (ev (forget gr e) (cond w y x))) h) Q
  exact this
section
variable {c : Tmp} {x y : Operand} {t s u : TypeId} {n : Nat} {ps : Array (Nat × Operand)} {o : BinOp} {o' : UnOp} {f : Fn} {xs ys : Array Operand} {lo hi m : Option Operand} {cl : Go.Call} {l : List Oper} {p : String} {a : Array Edge} {g : Option (Nat × Bool)} {d : Option Tmp}
  {K : List Oper → Option Tmp → Operand → Operand → List Oper → Prop}
@[simp] theorem pickK_yes : pickK c (⟨d, .pick (.tmp c) x y, t, p, a, g⟩ :: l) K ↔ K [] d x y l := by simp [pickK, isPick]
@[simp] theorem pickK_move : pickK c (⟨d, .move x, t, p, a, g⟩ :: l) K ↔ pickK c l fun gr d' x' y' r => K (⟨d, .move x, t, p, a, g⟩ :: gr) d' x' y' r := Iff.rfl
@[simp] theorem pickK_assign : pickK c (⟨d, .assign x, t, p, a, g⟩ :: l) K ↔ pickK c l fun gr d' x' y' r => K (⟨d, .assign x, t, p, a, g⟩ :: gr) d' x' y' r := Iff.rfl
@[simp] theorem pickK_alloc : pickK c (⟨d, .alloc s, t, p, a, g⟩ :: l) K ↔ pickK c l fun gr d' x' y' r => K (⟨d, .alloc s, t, p, a, g⟩ :: gr) d' x' y' r := Iff.rfl
@[simp] theorem pickK_box : pickK c (⟨d, .box s x, t, p, a, g⟩ :: l) K ↔ pickK c l fun gr d' x' y' r => K (⟨d, .box s x, t, p, a, g⟩ :: gr) d' x' y' r := Iff.rfl
@[simp] theorem pickK_build : pickK c (⟨d, .build s ps, t, p, a, g⟩ :: l) K ↔ pickK c l fun gr d' x' y' r => K (⟨d, .build s ps, t, p, a, g⟩ :: gr) d' x' y' r := Iff.rfl
@[simp] theorem pickK_buildSlice : pickK c (⟨d, .buildSlice s n ps, t, p, a, g⟩ :: l) K ↔ pickK c l fun gr d' x' y' r => K (⟨d, .buildSlice s n ps, t, p, a, g⟩ :: gr) d' x' y' r := Iff.rfl
@[simp] theorem pickK_load : pickK c (⟨d, .load s x, t, p, a, g⟩ :: l) K ↔ pickK c l fun gr d' x' y' r => K (⟨d, .load s x, t, p, a, g⟩ :: gr) d' x' y' r := Iff.rfl
@[simp] theorem pickK_store : pickK c (⟨d, .store s x y, t, p, a, g⟩ :: l) K ↔ pickK c l fun gr d' x' y' r => K (⟨d, .store s x y, t, p, a, g⟩ :: gr) d' x' y' r := Iff.rfl
@[simp] theorem pickK_nilCheck : pickK c (⟨d, .nilCheck x, t, p, a, g⟩ :: l) K ↔ pickK c l fun gr d' x' y' r => K (⟨d, .nilCheck x, t, p, a, g⟩ :: gr) d' x' y' r := Iff.rfl
@[simp] theorem pickK_binOp : pickK c (⟨d, .binOp o s x y u, t, p, a, g⟩ :: l) K ↔ pickK c l fun gr d' x' y' r => K (⟨d, .binOp o s x y u, t, p, a, g⟩ :: gr) d' x' y' r := Iff.rfl
@[simp] theorem pickK_unOp : pickK c (⟨d, .unOp o' s x, t, p, a, g⟩ :: l) K ↔ pickK c l fun gr d' x' y' r => K (⟨d, .unOp o' s x, t, p, a, g⟩ :: gr) d' x' y' r := Iff.rfl
@[simp] theorem pickK_convert : pickK c (⟨d, .convert s u x, t, p, a, g⟩ :: l) K ↔ pickK c l fun gr d' x' y' r => K (⟨d, .convert s u x, t, p, a, g⟩ :: gr) d' x' y' r := Iff.rfl
@[simp] theorem pickK_makeInterface : pickK c (⟨d, .makeInterface s x, t, p, a, g⟩ :: l) K ↔ pickK c l fun gr d' x' y' r => K (⟨d, .makeInterface s x, t, p, a, g⟩ :: gr) d' x' y' r := Iff.rfl
@[simp] theorem pickK_makeFunc : pickK c (⟨d, .makeFunc f xs ys, t, p, a, g⟩ :: l) K ↔ pickK c l fun gr d' x' y' r => K (⟨d, .makeFunc f xs ys, t, p, a, g⟩ :: gr) d' x' y' r := Iff.rfl
@[simp] theorem pickK_makeSlice : pickK c (⟨d, .makeSlice s x y, t, p, a, g⟩ :: l) K ↔ pickK c l fun gr d' x' y' r => K (⟨d, .makeSlice s x y, t, p, a, g⟩ :: gr) d' x' y' r := Iff.rfl
@[simp] theorem pickK_slice : pickK c (⟨d, .slice s x lo hi m, t, p, a, g⟩ :: l) K ↔ pickK c l fun gr d' x' y' r => K (⟨d, .slice s x lo hi m, t, p, a, g⟩ :: gr) d' x' y' r := Iff.rfl
@[simp] theorem pickK_fieldAddr : pickK c (⟨d, .fieldAddr s x n, t, p, a, g⟩ :: l) K ↔ pickK c l fun gr d' x' y' r => K (⟨d, .fieldAddr s x n, t, p, a, g⟩ :: gr) d' x' y' r := Iff.rfl
@[simp] theorem pickK_field : pickK c (⟨d, .field s x n, t, p, a, g⟩ :: l) K ↔ pickK c l fun gr d' x' y' r => K (⟨d, .field s x n, t, p, a, g⟩ :: gr) d' x' y' r := Iff.rfl
@[simp] theorem pickK_indexAddr : pickK c (⟨d, .indexAddr s x y, t, p, a, g⟩ :: l) K ↔ pickK c l fun gr d' x' y' r => K (⟨d, .indexAddr s x y, t, p, a, g⟩ :: gr) d' x' y' r := Iff.rfl
@[simp] theorem pickK_index : pickK c (⟨d, .index s x y, t, p, a, g⟩ :: l) K ↔ pickK c l fun gr d' x' y' r => K (⟨d, .index s x y, t, p, a, g⟩ :: gr) d' x' y' r := Iff.rfl
@[simp] theorem pickK_extract : pickK c (⟨d, .extract x n, t, p, a, g⟩ :: l) K ↔ pickK c l fun gr d' x' y' r => K (⟨d, .extract x n, t, p, a, g⟩ :: gr) d' x' y' r := Iff.rfl
@[simp] theorem pickK_call : pickK c (⟨d, .call cl, t, p, a, g⟩ :: l) K ↔ pickK c l fun gr d' x' y' r => K (⟨d, .call cl, t, p, a, g⟩ :: gr) d' x' y' r := Iff.rfl
@[simp] theorem pickK_pick {q : Tmp} (h : (q == c) = false) : pickK c (⟨d, .pick (.tmp q) x y, t, p, a, g⟩ :: l) K ↔ pickK c l fun gr d' x' y' r => K (⟨d, .pick (.tmp q) x y, t, p, a, g⟩ :: gr) d' x' y' r := by
  simp only [beq_eq_false_iff_ne] at h
  simp [pickK, isPick, h]
end
/-! ### At the end of a call -/
@[simp] theorem leave_mk {l : List Blk} {es : List (Nat × Nat)} {v : V} : leave ⟨l, es⟩ ⟨l, []⟩ v = ⟨l, es⟩ := leave_same (h := ⟨l, es⟩)
@[simp] theorem leave_gen {l l' m : List Blk} {es : List (Nat × Nat)} {v : V} (hl : l'.length = l.length) (hv : V.under l.length v = true) : leave ⟨l, es⟩ ⟨l' ++ m, []⟩ v = ⟨l', es⟩ := by
  unfold leave
  rw [if_pos (by simpa [H.size] using hv)]
  simp [H.size, ← hl]
@[simp] theorem leave_len {l l' : List Blk} {es : List (Nat × Nat)} {v : V} (hl : l'.length = l.length) : leave ⟨l, es⟩ ⟨l', []⟩ v = ⟨l', es⟩ := by
  unfold leave
  split
  · simp only [H.size, List.filter_nil, List.append_nil]
    rw [List.take_of_length_le (Nat.le_of_eq hl)]
  · simp
@[simp] theorem leave_kept {h : H} {m : List Blk} {v : V} (hv : V.under h.blks.length v = false) : leave h ⟨m, []⟩ v = ⟨m, h.esc⟩ := by
  rw [leave_keep hv]
  simp
@[simp] theorem leave_keptL {l m : List Blk} {es : List (Nat × Nat)} {v : V} (hv : V.under l.length v = false) : leave ⟨l, es⟩ ⟨m, []⟩ v = ⟨m, es⟩ := leave_kept (h := ⟨l, es⟩) hv
@[simp] theorem leave_mkset {l : List Blk} {es : List (Nat × Nat)} {b : Nat} {k : Blk} {v : V} : leave ⟨l, es⟩ ⟨l.set b k, []⟩ v = ⟨l.set b k, es⟩ := by
  unfold leave
  split
  · simp only [H.size, List.filter_nil, List.append_nil]
    rw [List.take_of_length_le (by simp)]
  · simp
@[simp] theorem leave_app {l m : List Blk} {es : List (Nat × Nat)} {v : V} (hv : V.under l.length v = true) : leave ⟨l, es⟩ ⟨l ++ m, []⟩ v = ⟨l, es⟩ := leave_gen rfl hv
@[simp] theorem leave_appH {h : H} {m : List Blk} {v : V} (hv : V.under h.blks.length v = true) : leave h ⟨h.blks ++ m, []⟩ v = h := leave_gen (l := h.blks) (es := h.esc) rfl hv
@[simp] theorem leave_setapp {l m : List Blk} {es : List (Nat × Nat)} {b : Nat} {k : Blk} {v : V} (hv : V.under l.length v = true) : leave ⟨l, es⟩ ⟨l.set b k ++ m, []⟩ v = ⟨l.set b k, es⟩ := leave_gen (by simp) hv
/-! ### Slices as lists -/
/-- v is a slice whose n elements have these cells. -/
def Sl (h : H) (esz n : Nat) (cs : List V) (v : V) : Prop :=
  (v = .nils ∧ n = 0 ∧ cs = []) ∨ ∃ b off ver lim k, v = .sl b off n ver esz lim ∧ h.blks[b]? = some k ∧ k.valid ≤ ver ∧ ver ≤ k.gen ∧ (k.cells.drop off).take (n * esz) = cs ∧ cs.length = n * esz
/-- v can be appended to. -/
def Own (h : H) (esz n : Nat) (v : V) : Prop :=
  (v = .nils ∧ n = 0) ∨ ∃ b off ver k, v = .sl b off n ver esz false ∧ h.blks[b]? = some k ∧ k.ro = false ∧ k.gen = ver ∧ off + n * esz = k.cells.length
/-- Nothing that was there is another now. -/
def Ext (h h' : H) : Prop := ∃ m es, h' = ⟨h.blks ++ m, h.esc ++ es⟩ ∧ ∀ x ∈ es, h.size ≤ x.1
theorem Ext.refl (h : H) : Ext h h := ⟨[], [], by simp, by simp⟩
theorem Ext.trans {h h1 h2 : H} (a : Ext h h1) (b : Ext h1 h2) : Ext h h2 := by
  obtain ⟨m, es, rfl, h3⟩ := a
  obtain ⟨m', es', rfl, h4⟩ := b
  refine ⟨m ++ m', es ++ es', by simp, fun x hx => ?_⟩
  rcases List.mem_append.1 hx with hx | hx
  · exact h3 x hx
  · have := h4 x hx
    simp [H.size] at this ⊢
    omega
theorem Ext.get {h h' : H} {b : Nat} {k : Blk} (a : Ext h h') (hb : h.blks[b]? = some k) : h'.blks[b]? = some k := by
  obtain ⟨m, es, rfl, h3⟩ := a
  exact at_old hb
theorem Sl.ext {h h' : H} {esz n : Nat} {cs : List V} {v : V} (s : Sl h esz n cs v) (a : Ext h h') : Sl h' esz n cs v := by
  rcases s with s | ⟨b, off, ver, lim, k, h1, h2, h3⟩
  · exact .inl s
  · exact .inr ⟨b, off, ver, lim, k, h1, a.get h2, h3⟩
theorem Own.ext {h h' : H} {esz n : Nat} {v : V} (s : Own h esz n v) (a : Ext h h') : Own h' esz n v := by
  rcases s with s | ⟨b, off, ver, k, h1, h2, h3⟩
  · exact .inl s
  · exact .inr ⟨b, off, ver, k, h1, a.get h2, h3⟩
end Go.Hl
end
section
/-! Hl: regions whose order is open, as a walk sees them. -/
namespace Go.Hl
section
variable {P : Program} {C : CallT} {call : CallT} {ops : List Oper}
theorem Does_orc {f : FuncId} {fn : Func} {args : List V} {h : H} {r : V × H} (hf : P.funcs[f]? = some fn) (hok : fnOk P fn = false) (hr : C f args h = some r) : Does P C f args h = some r :=
  Does_iff.2 ⟨1, by simp [callF, hf, hok, hr]⟩

@[simp ↓, simp] theorem do_pick {d : Option Tmp} {t : TypeId} {p : String} {a : Array Edge} {g : Option (Nat × Bool)} {ρ : Operand → V} {h : H} {c x y : Operand} {Q : V × H → Prop} :
    Ok (step call P ⟨d, .pick c x y, t, p, a, g⟩ ρ h) Q ↔ Ok (boolOf (ρ c)) fun b => Q (cond b (ρ x) (ρ y), h) := by
  rw [do_pure rfl]
  simp only [pureOp]
  cases ρ c <;> simp [boolOf]
/-- Which were passed over, as a function. -/
def skOf (n : Nat) (s : Nat → Bool) : List Bool := (List.range n).map s
def skU (s : Nat → Bool) (i : Nat) (b : Bool) : Nat → Bool := fun j => if j = i then b else s j
@[simp] theorem skU_same {s : Nat → Bool} {i : Nat} {b : Bool} : skU s i b i = b := by simp [skU]
@[simp] theorem skU_ne {s : Nat → Bool} {i j : Nat} {b : Bool} (h : (i == j) = false) : skU s i b j = s j := by
  simp only [beq_eq_false_iff_ne] at h
  simp [skU, Ne.symm h]
theorem skOf_snoc {n : Nat} {s : Nat → Bool} {b : Bool} : skOf n s ++ [b] = skOf (n + 1) (skU s n b) := by
  unfold skOf
  rw [List.range_succ, List.map_append]
  congr 1
  · refine List.map_congr_left fun a ha => ?_
    have := List.mem_range.1 ha
    simp [skU]
    omega
  · simp [skU]
theorem skOf_get {n q : Nat} {s : Nat → Bool} (h : q < n) : (skOf n s).getD q false = s q := by
  simp [skOf, List.getD_eq_getElem?_getD, h]
theorem skOf_zero {s : Nat → Bool} : skOf 0 s = [] := rfl
theorem W_anyF {F : List (Nat × Nat)} {id : Nat} {l : List Oper} {e : Env} {h : H} {Q : Ex → Env → H → Prop} (hF : floats P l (waits l []) = F) :
    W P C (.region id (List.toArray l) true) e h Q ↔ Ok (lexRun (Does P C) P l l (skOf 0 fun _ => false) e h) fun x => F.all (fun p => pairOk P l x.1 x.2.2 p.1 p.2) = true ∧ Q .normal x.2.1 x.2.2 := by
  unfold W
  rw [Exec_any, Ok_map]
  show Ok (runAny (Does P C) P l (floats P l (waits l [])) e h) _ ↔ _
  rw [hF]
  unfold runAny
  rw [Ok_bind]
  refine Ok_iff fun x => ?_
  rw [Ok_if_none, Ok_some]
@[congr] theorem lexRun_congr {l : List Oper} {sk sk' : List Bool} {e e' : Env} {h h' : H} (hs : sk = sk') (he : e = e') (hh : h = h') : lexRun call P ops l sk e h = lexRun call P ops l sk' e' h' := by rw [hs, he, hh]
@[congr] theorem skipOf_congr {o : Oper} {sk sk' : List Bool} {e e' : Env} (hs : sk = sk') (he : e = e') : skipOf ops o sk e = skipOf ops o sk' e' := by rw [hs, he]
@[congr] theorem pairOk_congr {rs rs' : List Rec} {h h' : H} {j k : Nat} (hr : rs = rs') (hh : h = h') : pairOk P ops rs h j k = pairOk P ops rs' h' j k := by rw [hr, hh]
@[simp] theorem lex_nil {sk : List Bool} {e : Env} {h : H} {Q : List Rec × Env × H → Prop} : Ok (lexRun call P ops [] sk e h) Q ↔ Q ([], e, h) := by simp [lexRun]
theorem lex_cons {l : List Oper} {dst : Option Tmp} {op : Op} {type : TypeId} {pos : String} {after : Array Edge} {sk : List Bool} {e : Env} {h : H} {Q : List Rec × Env × H → Prop} :
    Ok (lexRun call P ops (⟨dst, op, type, pos, after, none⟩ :: l) sk e h) Q ↔ Ok (step call P ⟨dst, op, type, pos, after, none⟩ (ev e) h) fun r => Ok (lexRun call P ops l (sk ++ [false]) (put e dst r.1) r.2) fun x => Q (⟨e, h, r.1, false⟩ :: x.1, x.2) := by
  simp only [lexRun, skipOf, Option.bind_some, cond_false]
  rw [Ok_bind]
  refine Ok_iff fun r => ?_
  rw [Ok_bind]
  refine Ok_iff fun x => ?_
  rw [Ok_some]
/-- One that stands under a guard. -/
theorem lex_guard {l : List Oper} {dst : Option Tmp} {op : Op} {type : TypeId} {pos : String} {after : Array Edge} {q : Nat} {w : Bool} {sk : List Bool} {e : Env} {h : H} {Q : List Rec × Env × H → Prop} :
    Ok (lexRun call P ops (⟨dst, op, type, pos, after, some (q, w)⟩ :: l) sk e h) Q ↔ Ok (skipOf ops ⟨dst, op, type, pos, after, some (q, w)⟩ sk e) fun s =>
      if s = true then Ok (lexRun call P ops l (sk ++ [true]) (put e dst .undef) h) fun x => Q (⟨e, h, .undef, true⟩ :: x.1, x.2)
      else Ok (step call P ⟨dst, op, type, pos, after, some (q, w)⟩ (ev e) h) fun r => Ok (lexRun call P ops l (sk ++ [false]) (put e dst r.1) r.2) fun x => Q (⟨e, h, r.1, false⟩ :: x.1, x.2) := by
  rw [lexRun, Ok_bind]
  refine Ok_iff fun s => ?_
  cases s with
  | true =>
    rw [if_pos rfl, cond_true, Option.bind_some, Ok_bind]
    refine Ok_iff fun x => ?_
    rw [Ok_some]
  | false =>
    rw [if_neg (by decide), cond_false, Ok_bind]
    refine Ok_iff fun r => ?_
    rw [Ok_bind]
    refine Ok_iff fun x => ?_
    rw [Ok_some]
@[simp] theorem lexK {n : Nat} {s : Nat → Bool} {l : List Oper} {dst : Option Tmp} {op : Op} {type : TypeId} {pos : String} {after : Array Edge} {e : Env} {h : H} {Q : List Rec × Env × H → Prop} :
    Ok (lexRun call P ops (⟨dst, op, type, pos, after, none⟩ :: l) (skOf n s) e h) Q ↔ Ok (step call P ⟨dst, op, type, pos, after, none⟩ (ev e) h) fun r => Ok (lexRun call P ops l (skOf (n + 1) (skU s n false)) (put e dst r.1) r.2) fun x => Q (⟨e, h, r.1, false⟩ :: x.1, x.2) := by
  rw [lex_cons, skOf_snoc]
@[simp] theorem lexG {n : Nat} {s : Nat → Bool} {l : List Oper} {dst : Option Tmp} {op : Op} {type : TypeId} {pos : String} {after : Array Edge} {q : Nat} {w : Bool} {e : Env} {h : H} {Q : List Rec × Env × H → Prop} (hq : q < n) :
    Ok (lexRun call P ops (⟨dst, op, type, pos, after, some (q, w)⟩ :: l) (skOf n s) e h) Q ↔ Ok (if s q = true then some true else (dstOf ops q).bind fun c => (boolOf (get e c)).bind fun b => some (b != w)) fun sk =>
      if sk = true then Ok (lexRun call P ops l (skOf (n + 1) (skU s n true)) (put e dst .undef) h) fun x => Q (⟨e, h, .undef, true⟩ :: x.1, x.2)
      else Ok (step call P ⟨dst, op, type, pos, after, some (q, w)⟩ (ev e) h) fun r => Ok (lexRun call P ops l (skOf (n + 1) (skU s n false)) (put e dst r.1) r.2) fun x => Q (⟨e, h, r.1, false⟩ :: x.1, x.2) := by
  rw [lex_guard, skOf_snoc, skOf_snoc]
  have e1 : skipOf ops ⟨dst, op, type, pos, after, some (q, w)⟩ (skOf n s) e = if s q = true then some true else (dstOf ops q).bind fun c => (boolOf (get e c)).bind fun b => some (b != w) := by
    simp only [skipOf, skOf_get hq]
    split
    · rfl
    · cases dstOf ops q with
      | none => rfl
      | some c =>
        simp only [Option.bind_some, get]
        cases e.getD c .undef <;> rfl
  rw [e1]
@[simp] theorem boolOf_some {b : Bool} : boolOf (.bool b) = some b := by unfold boolOf; rfl
@[simp] theorem sameAs_iff {v : V} {o : Option V} : (sameAs v o = true) ↔ Ok o fun u => u = v := by
  cases o with
  | none => simp [sameAs]
  | some u =>
    simp only [sameAs, Ok_some]
    exact ⟨fun h => V.same_eq h, fun h => by rw [h]; exact V.same_refl v⟩
@[simp] theorem readOp_load {t : TypeId} {x : Operand} {ρ : Operand → V} {h : H} {Q : V → Prop} : Ok (readOp P (.load t x) ρ h) Q ↔ Ok (readVar P t (ρ x) h) Q := Iff.rfl
theorem readOp_bytes {s t e : TypeId} {x : Operand} {ρ : Operand → V} {h : H} {Q : V → Prop} (hs : P.underlying s = some (.slice e)) (hu : P.underlying t = some .string) (he : P.underlying e = some (.int .u8)) :
    Ok (readOp P (.convert s t x) ρ h) Q ↔ Ok (bytesStrV h (ρ x)) Q := by
  simp only [readOp, hs, hu, he]
  cases ρ x <;> exact Iff.rfl
/-- The element at a place. -/
def nthO {α : Type} : List α → Nat → Option α
  | [], _ => none
  | a :: _, 0 => some a
  | _ :: l, n + 1 => nthO l n
theorem nthO_eq {α : Type} : ∀ (l : List α) (n : Nat), l[n]? = nthO l n
  | [], n => by simp [nthO]
  | a :: l, 0 => by simp [nthO]
  | a :: l, n + 1 => by simpa [nthO] using nthO_eq l n
@[simp ↓, simp] theorem nthO_zero {α : Type} {a : α} {l : List α} : nthO (a :: l) 0 = some a := by unfold nthO; rfl
@[simp ↓, simp] theorem nthO_succ {α : Type} {a : α} {l : List α} {n : Nat} : nthO (a :: l) (n + 1) = nthO l n := by
  rw [nthO]
@[simp ↓, simp] theorem nthO_nil {α : Type} {n : Nat} : nthO ([] : List α) n = none := by unfold nthO; rfl
def hOf (hN : H) : Option Rec → H
  | some r => r.h
  | none => hN
@[simp ↓, simp] theorem hOf_some {hN : H} {e : Env} {h : H} {v : V} {s : Bool} : hOf hN (some ⟨e, h, v, s⟩) = h := by unfold hOf; rfl
@[simp ↓, simp] theorem hOf_none {hN : H} : hOf hN none = hN := by unfold hOf; rfl
def pairW (P : Program) (hk : H) : Option Oper → Option Rec → Option Rec → Prop
  | some oj, some rj, some rk => rj.s = true ∨ rk.s = true ∨ sameAs rj.v (readOp P oj.op (ev rj.e) hk) = true
  | _, _, _ => False
@[simp ↓, simp] theorem pairW_some {hk : H} {d : Option Tmp} {op : Op} {t : TypeId} {p : String} {a : Array Edge} {g : Option (Nat × Bool)} {e e' : Env} {h h' : H} {v v' : V} {s s' : Bool} :
    pairW P hk (some ⟨d, op, t, p, a, g⟩) (some ⟨e, h, v, s⟩) (some ⟨e', h', v', s'⟩) ↔ s = true ∨ s' = true ∨ Ok (readOp P op (ev e) hk) fun u => u = v := by
  unfold pairW
  simp only [sameAs_iff]
theorem hAt_nth {rs : List Rec} {hN : H} {m : Nat} : hAt rs hN m = hOf hN (nthO rs m) := by
  unfold hAt
  rw [nthO_eq]
  cases nthO rs m <;> simp [hOf]
@[simp ↓, simp] theorem pair_lt {rs : List Rec} {hN : H} {j k : Nat} (hjk : (decide (j < k)) = true) : (pairOk P ops rs hN j k = true) ↔ pairW P (hOf hN (nthO rs (k + 1))) (nthO ops j) (nthO rs j) (nthO rs k) := by
  simp only [decide_eq_true_eq] at hjk
  unfold pairOk
  rw [nthO_eq, nthO_eq, nthO_eq]
  cases h1 : nthO ops j with
  | none => simp [pairW]
  | some oj => cases h2 : nthO rs j with
    | none => simp [pairW]
    | some rj => cases h3 : nthO rs k with
      | none => simp [pairW]
      | some rk =>
        simp only [if_pos hjk, hAt_nth, pairW, Bool.or_eq_true, or_assoc]
@[simp ↓, simp] theorem pair_gt {rs : List Rec} {hN : H} {j k : Nat} (hjk : (decide (j < k)) = false) : (pairOk P ops rs hN j k = true) ↔ pairW P (hOf hN (nthO rs k)) (nthO ops j) (nthO rs j) (nthO rs k) := by
  simp only [decide_eq_false_iff_not] at hjk
  unfold pairOk
  rw [nthO_eq, nthO_eq, nthO_eq]
  cases h1 : nthO ops j with
  | none => simp [pairW]
  | some oj => cases h2 : nthO rs j with
    | none => simp [pairW]
    | some rj => cases h3 : nthO rs k with
      | none => simp [pairW]
      | some rk =>
        simp only [if_neg hjk, pairW, Bool.or_eq_true, or_assoc]
        simp only [hOf]
end
end Go.Hl
end
section
/-! Hl: what stands under a guard, where it gives a value and no more: both ways together. -/
namespace Go.Hl
/-- Operations, one behind the other. -/
def runE (call : CallT) (P : Program) : List Oper → Env → H → Option (Env × H)
  | [], e, h => some (e, h)
  | o :: l, e, h => (step call P o (ev e) h).bind fun r => runE call P l (put e o.dst r.1) r.2
def stepE (call : CallT) (P : Program) (o : Oper) (ρ : Operand → V) (h : H) : Option (V × H) := step call P o ρ h
theorem runE_eq {call : CallT} {P : Program} {ops : List Oper} {g : Option (Nat × Bool)} : ∀ (l : List Oper) (n : Nat) (e : Env) (h : H), (l.all fun o => decide (o.guard = g)) = true → l.length ≤ n → runOps call P ops n g l e h = runE call P l e h
  | [], n, e, h, _, _ => by cases n <;> simp [runOps, runE]
  | o :: l, 0, _, _, _, hn => by simp at hn
  | o :: l, n + 1, e, h, ha, hn => by
    simp only [List.all_cons, Bool.and_eq_true, decide_eq_true_eq] at ha
    simp only [runOps, runE, ha.1, if_true]
    refine congrArg _ (funext fun r => ?_)
    exact runE_eq l n _ _ ha.2 (by simpa using hn)
/-- Both ways of a guard together. -/
def joinV (b w : Bool) (A : Option (V × H)) (B : V × H) : Option (V × H) := if b = w then A else some B
@[simp] theorem joinV_and {b v : Bool} {h : H} : joinV b true (some (.bool v, h)) (.bool false, h) = some (.bool (b && v), h) := by
  cases b <;> simp [joinV]
@[simp] theorem joinV_or {b v : Bool} {h : H} : joinV b false (some (.bool v, h)) (.bool true, h) = some (.bool (b || v), h) := by
  cases b <;> simp [joinV]
@[congr] theorem joinV_congr {b w : Bool} {A A' : Option (V × H)} {B B' : V × H} (hA : A = A') (hB : B = B') : joinV b w A B = joinV b w A' B' := by rw [hA, hB]
@[congr] theorem runE_congr {call : CallT} {P : Program} {l : List Oper} {e e' : Env} {h h' : H} (he : e = e') (hh : h = h') : runE call P l e h = runE call P l e' h' := by rw [he, hh]
@[congr] theorem stepE_congr {call : CallT} {P : Program} {o : Oper} {ρ ρ' : Operand → V} {h h' : H} (he : ρ = ρ') (hh : h = h') : stepE call P o ρ h = stepE call P o ρ' h' := by rw [he, hh]
section
variable {P : Program} {call : CallT} {d : Option Tmp} {t s u : TypeId} {p : String} {a : Array Edge} {g : Option (Nat × Bool)} {ρ : Operand → V} {h : H} {x y : Operand} {i : TI} {e : Env} {l : List Oper}
@[simp] theorem runE_nil : runE call P [] e h = some (e, h) := rfl
@[simp] theorem runE_cons {op : Op} : runE call P (⟨d, op, t, p, a, g⟩ :: l) e h = (stepE call P ⟨d, op, t, p, a, g⟩ (ev e) h).bind fun r => runE call P l (put e d r.1) r.2 := rfl
@[simp] theorem stepE_move : stepE call P ⟨d, .move x, t, p, a, g⟩ ρ h = some (ρ x, h) := by simp [stepE, step, kindOf, pureOp]
@[simp] theorem stepE_assign : stepE call P ⟨d, .assign x, t, p, a, g⟩ ρ h = some (ρ x, h) := by simp [stepE, step, kindOf, pureOp]
@[simp] theorem stepE_bin {o : BinOp} : stepE call P ⟨d, .binOp o s x y u, t, p, a, g⟩ ρ h = (binV P o s (ρ x) (ρ y)).map fun v => (v, h) := by simp [stepE, step, kindOf, pureOp]
@[simp] theorem stepE_un {o : UnOp} : stepE call P ⟨d, .unOp o s x, t, p, a, g⟩ ρ h = (unV o (ρ x)).map fun v => (v, h) := by simp [stepE, step, kindOf, pureOp]
@[simp] theorem stepE_len : stepE call P ⟨d, .call { callee := .builtin .len, args := #[x], argTypes := #[s] }, t, p, a, g⟩ ρ h = (lenOp P s (ρ x)).map fun v => (v, h) := by
  simp [stepE, step, kindOf, pureOp, callPure]
@[simp] theorem stepE_call {f : FuncId} {args : Array Operand} {ts : Array TypeId} : stepE call P ⟨d, .call { callee := .value (.func f), args := args, argTypes := ts }, t, p, a, g⟩ (ev e) h = call f (args.toList.map (ev e)) h := by
  simp [stepE, step, kindOf, callOp, ev]
@[simp] theorem stepE_extract {k : Nat} : stepE call P ⟨d, .extract x k, t, p, a, g⟩ ρ h = (extractV k (ρ x)).map fun v => (v, h) := rfl
def readE (n : Nat) (g : Bool) (v : V) (h : H) : Option V := readV ⟨n, g, 0, [], .other⟩ v h
theorem stepE_load (ht : ti P s = some i) : stepE call P ⟨d, .load s x, t, p, a, g⟩ ρ h = (readE i.sz i.agg (ρ x) h).map fun v => (v, h) := by
  simp only [stepE, step, kindOf, readOp, readVar, ht, readE, readV]
  cases ρ x <;> rfl
theorem stepE_fieldAddr {f : Nat} (ht : ti P s = some i) : stepE call P ⟨d, .fieldAddr s x f, t, p, a, g⟩ ρ h = (fieldAddrV i (ρ x) f).map fun v => (v, h) := by
  simp only [stepE, step, kindOf, pureOp, ht]
  rfl
theorem stepE_conv {k k' : IntKind} (hs : P.underlying s = some (.int k)) (hu : P.underlying u = some (.int k')) : stepE call P ⟨d, .convert s u x, t, p, a, g⟩ ρ h = (convV k' (ρ x)).map fun v => (v, h) := by
  have hk : kindOf P (.convert s u x) = .pure := by simp [kindOf, hs, hu]
  simp only [stepE, step, hk, pureOp, hs, hu]
  cases ρ x <;> rfl
@[simp] theorem convV_int {k k' : IntKind} {n : Int} : convV k' (.int k n) = some (.int k' (k'.wrap n)) := by unfold convV; rfl
@[simp] theorem stepE_nilCheck : stepE call P ⟨d, .nilCheck x, t, p, a, g⟩ ρ h = (nilV (ρ x)).map fun v => (v, h) := rfl
@[simp] theorem nilV_some {b o v z : Nat} : nilV (.ptr b o v z) = some (.ptr b o v z) := by unfold nilV; rfl
@[simp] theorem fieldAddrV_some {o ver w : Nat} {c : Nat} {f : Nat} {z : List V} {n m : Nat} {b : Bool} {fs : List (Nat × Nat × Bool)} :
    fieldAddrV ⟨n, b, m, z, .struct fs⟩ (.ptr c o ver w) f = fs[f]?.map fun q => .ptr c (o + q.1) ver w := by
  simp only [fieldAddrV]
  cases fs[f]? <;> rfl
@[simp] theorem extractV_tup {m : List V} {j : Nat} : extractV j (.tup m) = m[j]? := by unfold extractV; rfl
def cellAt (off ver z : Nat) : Option Blk → Option V
  | some k => if k.valid ≤ ver ∧ ver ≤ k.gen ∧ off + 1 ≤ z then k.cells[off]? else none
  | none => none
def cellsAt (n off ver z : Nat) : Option Blk → Option V
  | some k => if k.valid ≤ ver ∧ ver ≤ k.gen ∧ off + n ≤ z then some (.agg ((k.cells.drop off).take n)) else none
  | none => none
@[simp] theorem readE_one {b off ver z : Nat} {bl : List Blk} {es : List (Nat × Nat)} : readE 1 false (.ptr b off ver z) ⟨bl, es⟩ = cellAt off ver z bl[b]? := by
  simp only [readE, readV, H.read, cellAt]
  cases bl[b]? with
  | none => rfl
  | some k =>
    simp only
    by_cases h1 : k.valid ≤ ver ∧ ver ≤ k.gen
    · by_cases h2 : off + 1 ≤ z
      · rw [if_pos h1, if_pos ⟨h1.1, h1.2, h2⟩]
        simp only [if_pos h2, cond_false]
        rw [List.head?_take]
        simp
      · rw [if_pos h1, if_neg (fun h => h2 h.2.2)]
        simp [h2]
    · rw [if_neg h1, if_neg (fun h => h1 ⟨h.1, h.2.1⟩)]
@[simp] theorem readE_agg {n b off ver z : Nat} {bl : List Blk} {es : List (Nat × Nat)} : readE n true (.ptr b off ver z) ⟨bl, es⟩ = cellsAt n off ver z bl[b]? := by
  simp only [readE, readV, H.read, cellsAt]
  cases bl[b]? with
  | none => rfl
  | some k =>
    simp only
    by_cases h1 : k.valid ≤ ver ∧ ver ≤ k.gen
    · by_cases h2 : off + n ≤ z
      · rw [if_pos h1, if_pos ⟨h1.1, h1.2, h2⟩]
        simp [h2]
      · rw [if_pos h1, if_neg (fun h => h2 h.2.2)]
        simp [h2]
    · rw [if_neg h1, if_neg (fun h => h1 ⟨h.1, h.2.1⟩)]
@[simp] theorem cellAt_some {cs : List V} {gen valid off ver z : Nat} {ro : Bool} : cellAt off ver z (some ⟨cs, gen, valid, ro⟩) = if valid ≤ ver ∧ ver ≤ gen ∧ off + 1 ≤ z then cs[off]? else none := by unfold cellAt; rfl
@[simp] theorem cellsAt_some {cs : List V} {n gen valid off ver z : Nat} {ro : Bool} : cellsAt n off ver z (some ⟨cs, gen, valid, ro⟩) = if valid ≤ ver ∧ ver ≤ gen ∧ off + n ≤ z then some (.agg ((cs.drop off).take n)) else none := by unfold cellsAt; rfl

/-- The rule: both ways of a guard together, where all that stands under it can be done. -/
theorem run_join {ops rest : List Oper} {n q : Nat} {w : Bool} {ctx : Option (Nat × Bool)} {op : Op} {Q : Env × H → Prop} (hne : some (q, w) ≠ ctx) :
    Ok (runOps call P ops (n + 1) ctx (⟨d, op, t, p, a, some (q, w)⟩ :: rest) e h) Q ↔
      Ok (dstOf ops q) fun c => Ok (boolOf (get e c)) fun b => pickK c (⟨d, op, t, p, a, some (q, w)⟩ :: rest) fun gr dst x y rest' =>
        if (gr.all fun o => decide (o.guard = some (q, w))) = true ∧ gr.length ≤ n then
          Ok (joinV b w ((runE call P gr e h).map fun r => (ev r.1 (cond w x y), r.2)) (ev (forget gr e) (cond w y x), h)) fun vh => Ok (runOps call P ops n ctx rest' (put (forget gr e) dst vh.1) vh.2) Q
        else if b = w then Ok (runOps call P ops n (some (q, w)) gr e h) fun r => Ok (runOps call P ops n ctx rest' (put (forget gr e) dst (ev r.1 (cond w x y))) r.2) Q
        else Ok (runOps call P ops n ctx rest' (put (forget gr e) dst (ev (forget gr e) (cond w y x))) h) Q := by
  rw [run_groupK hne]
  refine Ok_iff fun c => Ok_iff fun b => pickK_fun fun gr dst x y rest' => ?_
  by_cases hc : (gr.all fun o => decide (o.guard = some (q, w))) = true ∧ gr.length ≤ n
  · rw [if_pos hc]
    by_cases hb : b = w
    · rw [if_pos hb, runE_eq gr n e h hc.1 hc.2]
      simp only [joinV, if_pos hb, Ok_map]
    · rw [if_neg hb]
      simp only [joinV, if_neg hb, Ok_some]
  · rw [if_neg hc]
end
end Go.Hl
end
section
/-! Numbers as bytes. -/
namespace Go.Hl
abbrev Bs := List UInt8
/-- The lowest byte of a number. -/
def b8 (x : Int) : UInt8 := UInt8.ofNat (x % 256).toNat
def be2 (x : Int) : Bs := [b8 (x / 256), b8 x]
def be4 (x : Int) : Bs := [b8 (x / 16777216), b8 (x / 65536), b8 (x / 256), b8 x]
/-- How many noughts fill up. -/
def padN (n : Nat) : Nat := (4 - n % 4) % 4
def noughts (n : Nat) : Bs := List.replicate n 0
def filled (s : Bs) : Bs := s ++ noughts (padN s.length)
/-- The number that bytes say. -/
def numB (l : Bs) : Nat := l.foldl (fun a b => a * 256 + b.toNat) 0
theorem b8_wrap (x : Int) : UInt8.ofNat (IntKind.u8.wrap x).toNat = b8 x := by
  simp [b8, IntKind.wrap, IntKind.bits, IntKind.signed]
theorem be2_len (x : Int) : (be2 x).length = 2 := rfl
theorem be4_len (x : Int) : (be4 x).length = 4 := rfl
@[simp] theorem noughts_len (n : Nat) : (noughts n).length = n := by simp [noughts]
theorem padN_lt (n : Nat) : padN n < 4 := by unfold padN; omega
@[simp] theorem ok_shr_1 {k : IntKind} {x : Int} {Q : V → Prop} : Ok (shiftOp .shr k x 1) Q ↔ Q (.int k (x.fdiv (2 ^ (min 1 k.bits)))) := by
  simp only [shiftOp, if_neg (show ¬ ((1 : Int) < 0) by decide), Ok_some]
  rfl
@[simp] theorem ok_shl_1 {k : IntKind} {x : Int} {Q : V → Prop} : Ok (shiftOp .shl k x 1) Q ↔ Q (.int k (k.wrap (x * 2 ^ (min 1 k.bits)))) := by
  simp only [shiftOp, if_neg (show ¬ ((1 : Int) < 0) by decide), Ok_some]
  rfl
@[simp] theorem ok_shr_4 {k : IntKind} {x : Int} {Q : V → Prop} : Ok (shiftOp .shr k x 4) Q ↔ Q (.int k (x.fdiv (2 ^ (min 4 k.bits)))) := by
  simp only [shiftOp, if_neg (show ¬ ((4 : Int) < 0) by decide), Ok_some]
  rfl
@[simp] theorem ok_shl_4 {k : IntKind} {x : Int} {Q : V → Prop} : Ok (shiftOp .shl k x 4) Q ↔ Q (.int k (k.wrap (x * 2 ^ (min 4 k.bits)))) := by
  simp only [shiftOp, if_neg (show ¬ ((4 : Int) < 0) by decide), Ok_some]
  rfl
@[simp] theorem ok_shr_8 {k : IntKind} {x : Int} {Q : V → Prop} : Ok (shiftOp .shr k x 8) Q ↔ Q (.int k (x.fdiv (2 ^ (min 8 k.bits)))) := by
  simp only [shiftOp, if_neg (show ¬ ((8 : Int) < 0) by decide), Ok_some]
  rfl
@[simp] theorem ok_shl_8 {k : IntKind} {x : Int} {Q : V → Prop} : Ok (shiftOp .shl k x 8) Q ↔ Q (.int k (k.wrap (x * 2 ^ (min 8 k.bits)))) := by
  simp only [shiftOp, if_neg (show ¬ ((8 : Int) < 0) by decide), Ok_some]
  rfl
@[simp] theorem ok_shr_16 {k : IntKind} {x : Int} {Q : V → Prop} : Ok (shiftOp .shr k x 16) Q ↔ Q (.int k (x.fdiv (2 ^ (min 16 k.bits)))) := by
  simp only [shiftOp, if_neg (show ¬ ((16 : Int) < 0) by decide), Ok_some]
  rfl
@[simp] theorem ok_shl_16 {k : IntKind} {x : Int} {Q : V → Prop} : Ok (shiftOp .shl k x 16) Q ↔ Q (.int k (k.wrap (x * 2 ^ (min 16 k.bits)))) := by
  simp only [shiftOp, if_neg (show ¬ ((16 : Int) < 0) by decide), Ok_some]
  rfl
@[simp] theorem ok_shr_24 {k : IntKind} {x : Int} {Q : V → Prop} : Ok (shiftOp .shr k x 24) Q ↔ Q (.int k (x.fdiv (2 ^ (min 24 k.bits)))) := by
  simp only [shiftOp, if_neg (show ¬ ((24 : Int) < 0) by decide), Ok_some]
  rfl
@[simp] theorem ok_shl_24 {k : IntKind} {x : Int} {Q : V → Prop} : Ok (shiftOp .shl k x 24) Q ↔ Q (.int k (k.wrap (x * 2 ^ (min 24 k.bits)))) := by
  simp only [shiftOp, if_neg (show ¬ ((24 : Int) < 0) by decide), Ok_some]
  rfl
@[simp] theorem ok_shr_32 {k : IntKind} {x : Int} {Q : V → Prop} : Ok (shiftOp .shr k x 32) Q ↔ Q (.int k (x.fdiv (2 ^ (min 32 k.bits)))) := by
  simp only [shiftOp, if_neg (show ¬ ((32 : Int) < 0) by decide), Ok_some]
  rfl
@[simp] theorem ok_shl_32 {k : IntKind} {x : Int} {Q : V → Prop} : Ok (shiftOp .shl k x 32) Q ↔ Q (.int k (k.wrap (x * 2 ^ (min 32 k.bits)))) := by
  simp only [shiftOp, if_neg (show ¬ ((32 : Int) < 0) by decide), Ok_some]
  rfl
@[simp] theorem ok_shr_33 {k : IntKind} {x : Int} {Q : V → Prop} : Ok (shiftOp .shr k x 33) Q ↔ Q (.int k (x.fdiv (2 ^ (min 33 k.bits)))) := by
  simp only [shiftOp, if_neg (show ¬ ((33 : Int) < 0) by decide), Ok_some]
  rfl
@[simp] theorem ok_shl_33 {k : IntKind} {x : Int} {Q : V → Prop} : Ok (shiftOp .shl k x 33) Q ↔ Q (.int k (k.wrap (x * 2 ^ (min 33 k.bits)))) := by
  simp only [shiftOp, if_neg (show ¬ ((33 : Int) < 0) by decide), Ok_some]
  rfl
theorem bin_andNot {P : Program} {t : TypeId} {k : IntKind} {x y : Int} : binV P .andNot t (.int k x) (.int k y) = (bitsOp .andNot k x y).map (.int k) := by simp [binV, intOp]
@[simp] theorem ok_neg {k : IntKind} {x : Int} {Q : V → Prop} : Ok (unV .neg (.int k x)) Q ↔ Q (.int k (k.wrap (0 - x))) := by simp [unV]
theorem fdiv_pos (x : Int) (n : Int) (h : 0 ≤ n) : x.fdiv n = x / n := Int.fdiv_eq_ediv_of_nonneg _ h
theorem splice_one {l : List V} {v : V} : splice (v :: l) 0 [] = v :: l := by simp [splice]
theorem numB_snoc (l : Bs) (x : UInt8) : numB (l ++ [x]) = numB l * 256 + x.toNat := by simp [numB]
theorem numB_take {l : Bs} {i : Nat} (h : i < l.length) : numB (l.take (i + 1)) = numB (l.take i) * 256 + l[i].toNat := by
  rw [List.take_succ_eq_append_getElem h, numB_snoc]
theorem numB_lt (l : Bs) : numB l < 256 ^ l.length := by
  have key : ∀ (l : Bs) (a n : Nat), a < 256 ^ n → l.foldl (fun a b => a * 256 + b.toNat) a < 256 ^ (n + l.length) := by
    intro l
    induction l with
    | nil => intro a n h; simpa using h
    | cons x l ih =>
      intro a n h
      have hx := x.toNat_lt
      have := ih (a * 256 + x.toNat) (n + 1) (by rw [Nat.pow_succ]; omega)
      simp only [List.foldl_cons, List.length_cons]
      rwa [show n + (l.length + 1) = n + 1 + l.length by omega]
  simpa [numB] using key l 0 0 (by simp)
theorem wrap_u64' {n : Nat} (h : n < 18446744073709551616) : IntKind.u64.wrap (n : Int) = n := by
  simp only [IntKind.wrap, IntKind.bits, IntKind.signed]
  exact Int.emod_eq_of_lt (by omega) (Int.ofNat_lt.2 h)
theorem or_u64 {m x : Nat} (hm : m * 256 + x < 18446744073709551616) (hx : x < 256) : bitsOp .or .u64 ((m : Int) * 256) (x : Int) = some ((m * 256 + x : Nat) : Int) := by
  have a1 : m * 256 < 18446744073709551616 := Nat.lt_of_le_of_lt (Nat.le_add_right _ _) hm
  have a2 : x < 18446744073709551616 := Nat.lt_of_le_of_lt (Nat.le_add_left _ _) hm
  have h1 : (m * 256) ||| x = m * 256 + x := by
    have := Nat.shiftLeft_add_eq_or_of_lt (b := x) (i := 8) (by simpa using hx) m
    rw [Nat.shiftLeft_eq] at this
    simpa using this.symm
  rw [show (m : Int) * 256 = ((m * 256 : Nat) : Int) by simp]
  show some (IntKind.wrap .u64 ((BitVec.ofInt 64 ((m * 256 : Nat) : Int) ||| BitVec.ofInt 64 (x : Int)).toNat : Int)) = _
  simp only [BitVec.ofInt_natCast, BitVec.toNat_or, BitVec.toNat_ofNat]
  rw [Nat.mod_eq_of_lt a1, Nat.mod_eq_of_lt a2, h1]
  exact congrArg some (wrap_u64' hm)
theorem wrap_succ {i n : Nat} (h : i < n) (hn : n ≤ 4611686018427387904) : IntKind.i64.wrap ((i : Int) + 1) = ((i + 1 : Nat) : Int) := by
  rw [wrap_i64 (by omega) (by omega)]
  simp
attribute [simp] ofVal ofCell IntKind.bits
end Go.Hl
end
section
/-! Hl: the rules are tried ahead of what lies within. -/
namespace Go.Hl
attribute [simp ↓] Ok_some Ok_none Ok_bind Ok_map Ok_if_none Ok_none_if W_skip W_ret W_exit andThen_normal andThen_ret andThen_exit
  blockEnd_normal blockEnd_ret blockEnd_exit W_seq W_block W_cond condW_dec condW_bool W_regionL handed_ret handed_normal run_nil
  run_cons do_move do_assign do_bin do_un do_len do_min do_max do_call results_tmp results_cell do_extract'
  do_box' ok_optNone ok_optSome ok_idxLt index_str index_arr slice_str slice_sl slice_nils conv_int extract_tup indexAddr_sl
  indexAddr_arr fieldAddr_ptr field_agg ok_read ok_write ok_grow readV_one readV_agg storeV_ptr boolOf_bool fillA_nil fillA_cons
  bytesStr_nils bytesStr_sl bytesOf_nil bytesOf_cons strBytes_str fillF_nil fillF_cons appendTo_nils appendTo_own do_nilCheck nilV_ptr run_groupK
  pickK_yes pickK_move pickK_assign pickK_alloc pickK_box pickK_build pickK_buildSlice pickK_load pickK_store pickK_nilCheck pickK_binOp pickK_unOp
  pickK_convert pickK_makeInterface pickK_makeFunc pickK_makeSlice pickK_slice pickK_fieldAddr pickK_field pickK_indexAddr pickK_index pickK_extract pickK_call pickK_pick
  lex_nil lexK lexG readOp_load ok_shr_1 ok_shl_1 ok_shr_4 ok_shl_4 ok_shr_8 ok_shl_8 ok_shr_16 ok_shl_16 ok_shr_24
  ok_shl_24 ok_shr_32 ok_shl_32 ok_shr_33 ok_shl_33 ok_neg
end Go.Hl
end
