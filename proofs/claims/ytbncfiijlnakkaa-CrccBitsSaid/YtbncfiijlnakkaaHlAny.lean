import Derived.Test.YtbncfiijlnakkaaHlCongr
import Derived.Orders
/-! Hl: operations whose order is open. -/
namespace Go.Hl
open Go.RowKit

/-! ### What waits for what -/
def waitOf (acc : List Nat) (o : Oper) : Nat := o.after.toList.foldl (fun s e => if Region.binds .any e then s ||| 2 ^ e.on ||| acc.getD e.on 0 else s) 0

theorem waits_cons (o : Oper) (l : List Oper) (acc : List Nat) : waits (o :: l) acc = waits l (acc ++ [waitOf acc o]) := rfl
theorem waits_length : ∀ (l : List Oper) (acc : List Nat), (waits l acc).length = acc.length + l.length
  | [], acc => by simp [waits]
  | o :: l, acc => by rw [waits_cons, waits_length l]; simp; omega
theorem waits_pre : ∀ (l : List Oper) (acc : List Nat) (i : Nat), i < acc.length → (waits l acc)[i]? = acc[i]?
  | [], acc, i, _ => rfl
  | o :: l, acc, i, hi => by
    rw [waits_cons, waits_pre l _ i (by simp; omega), List.getElem?_append_left hi]
theorem waits_get : ∀ (l : List Oper) (acc : List Nat) (m : Nat) (o : Oper), l[m]? = some o → ∃ acc', acc'.length = acc.length + m ∧ (∀ i, i < acc'.length → acc'[i]? = (waits l acc)[i]?) ∧ (waits l acc)[acc.length + m]? = some (waitOf acc' o)
  | [], _, _, _, h => by simp at h
  | o' :: l, acc, 0, o, h => by
    simp only [List.getElem?_cons_zero, Option.some.injEq] at h
    subst h
    refine ⟨acc, rfl, fun i hi => (waits_pre (o' :: l) acc i hi).symm, ?_⟩
    rw [waits_cons, waits_pre _ _ _ (by simp)]
    simp
  | o' :: l, acc, m + 1, o, h => by
    obtain ⟨acc', h1, h2, h3⟩ := waits_get l (acc ++ [waitOf acc o']) m o (by simpa using h)
    refine ⟨acc', by rw [h1]; simp; omega, h2, ?_⟩
    rw [waits_cons, show acc.length + (m + 1) = (acc ++ [waitOf acc o']).length + m by simp; omega]
    exact h3

theorem waitOf_bit (acc : List Nat) (k : Nat) : ∀ (es : List Edge) (s : Nat), (es.foldl (fun s e => if Region.binds .any e then s ||| 2 ^ e.on ||| acc.getD e.on 0 else s) s).testBit k = true →
    s.testBit k = true ∨ ∃ e ∈ es, Region.binds .any e = true ∧ (e.on = k ∨ (acc.getD e.on 0).testBit k = true)
  | [], s, h => .inl h
  | e :: es, s, h => by
    simp only [List.foldl_cons] at h
    rcases waitOf_bit acc k es _ h with h1 | ⟨e', he', h1⟩
    · split at h1
      · rename_i hb
        simp only [Nat.testBit_or, Bool.or_eq_true] at h1
        rcases h1 with (h1 | h1) | h1
        · exact .inl h1
        · right
          refine ⟨e, by simp, hb, .inl ?_⟩
          rw [Nat.testBit_two_pow] at h1
          simpa using h1
        · exact .inr ⟨e, by simp, hb, .inr h1⟩
      · exact .inl h1
    · exact .inr ⟨e', by simp [he'], h1⟩

/-- What is waited for has come up. -/
theorem bits_listed {ops : Array Oper} {S : Nat → Prop} (hback : ∀ (i : Nat) (o : Oper), ops[i]? = some o → ∀ e ∈ o.after, Region.binds .any e = true → e.on < i)
    (hS : ∀ (i : Nat) (o : Oper), S i → ops[i]? = some o → ∀ e ∈ o.after, Region.binds .any e = true → S e.on) :
    ∀ (i : Nat) (o : Oper), ops[i]? = some o → (∀ e ∈ o.after, Region.binds .any e = true → S e.on) → ∀ k, bit (waits ops.toList []) i k = true → S k := by
  intro i
  induction i using Nat.strongRecOn with
  | _ i ih =>
    intro o ho hd k hk
    obtain ⟨acc', h1, h2, h3⟩ := waits_get ops.toList [] i o (by simpa using ho)
    simp only [List.length_nil, Nat.zero_add] at h1 h3
    unfold bit at hk
    rw [List.getD_eq_getElem?_getD, h3] at hk
    simp only [Option.getD_some] at hk
    rcases waitOf_bit acc' k _ _ hk with h4 | ⟨e, he, hb, h4⟩
    · simp at h4
    · have he' : e ∈ o.after := by simpa using he
      rcases h4 with rfl | h4
      · exact hd e he' hb
      · have hlt := hback i o ho e he' hb
        have hse := hd e he' hb
        cases hoe : ops[e.on]? with
        | none =>
          have : e.on < ops.size := by
            have := (Array.getElem?_eq_some_iff.1 ho).1
            omega
          rw [Array.getElem?_eq_getElem this] at hoe
          cases hoe
        | some oe =>
          refine ih e.on hlt oe hoe (hS e.on oe hse hoe) k ?_
          unfold bit
          rw [List.getD_eq_getElem?_getD, ← h2 e.on (by omega), ← List.getD_eq_getElem?_getD]
          exact h4

/-! ### The run in the text's order -/
def eAt (rs : List Rec) (eN : Env) (m : Nat) : Env := match rs[m]? with
  | some r => r.e
  | none => eN
def vAt (rs : List Rec) (m : Nat) : V := match rs[m]? with
  | some r => r.v
  | none => .undef
def sAt (rs : List Rec) (m : Nat) : Bool := match rs[m]? with
  | some r => r.s
  | none => false

theorem lexRun_spec {call : CallT} {P : Program} {ops : List Oper} : ∀ (l : List Oper) (sk : List Bool) (e : Env) (h : H) (rs : List Rec) (eN : Env) (hN : H), lexRun call P ops l sk e h = some (rs, eN, hN) →
    rs.length = l.length ∧ eAt rs eN 0 = e ∧ hAt rs hN 0 = h ∧ ∀ m o, l[m]? = some o →
      skipOf ops o (sk ++ (rs.take m).map (·.s)) (eAt rs eN m) = some (sAt rs m) ∧
      eAt rs eN (m + 1) = put (eAt rs eN m) o.dst (vAt rs m) ∧
      (sAt rs m = true → vAt rs m = .undef ∧ hAt rs hN (m + 1) = hAt rs hN m) ∧
      (sAt rs m = false → step call P o (ev (eAt rs eN m)) (hAt rs hN m) = some (vAt rs m, hAt rs hN (m + 1)))
  | [], sk, e, h, rs, eN, hN, hr => by
    simp only [lexRun, Option.some.injEq, Prod.mk.injEq] at hr
    obtain ⟨rfl, rfl, rfl⟩ := hr
    exact ⟨rfl, rfl, rfl, fun m o ho => by simp at ho⟩
  | o :: l, sk, e, h, rs, eN, hN, hr => by
    simp only [lexRun] at hr
    cases hs : skipOf ops o sk e with
    | none => simp [hs] at hr
    | some s =>
      simp only [hs, Option.bind_some] at hr
      cases hv : (cond s (some (.undef, h)) (step call P o (ev e) h)) with
      | none => simp [hv] at hr
      | some r =>
        obtain ⟨v, h1⟩ := r
        simp only [hv, Option.bind_some] at hr
        cases hl : lexRun call P ops l (sk ++ [s]) (put e o.dst v) h1 with
        | none => simp [hl] at hr
        | some x =>
          obtain ⟨rs', eN', hN'⟩ := x
          simp only [hl, Option.bind_some, Option.some.injEq, Prod.mk.injEq] at hr
          obtain ⟨rfl, rfl, rfl⟩ := hr
          obtain ⟨k1, k2, k3, k4⟩ := lexRun_spec l _ _ _ _ _ _ hl
          refine ⟨by simp [k1], rfl, rfl, fun m o' ho' => ?_⟩
          cases m with
          | zero =>
            simp only [List.getElem?_cons_zero, Option.some.injEq] at ho'
            subst ho'
            refine ⟨by simpa [eAt, sAt] using hs, ?_, fun hs' => ?_, fun hs' => ?_⟩
            · show eAt (⟨e, h, v, s⟩ :: rs') eN' (0 + 1) = _
              have : eAt (⟨e, h, v, s⟩ :: rs') eN' (0 + 1) = eAt rs' eN' 0 := by simp [eAt]
              rw [this, k2]
              simp [eAt, vAt]
            · have hs'' : s = true := by simpa [sAt] using hs'
              subst hs''
              simp only [cond_true, Option.some.injEq, Prod.mk.injEq] at hv
              refine ⟨by simp [vAt, ← hv.1], ?_⟩
              have : hAt (⟨e, h, v, true⟩ :: rs') hN' (0 + 1) = hAt rs' hN' 0 := by simp [hAt]
              rw [this, k3, ← hv.2]
              simp [hAt]
            · have hs'' : s = false := by simpa [sAt] using hs'
              subst hs''
              simp only [cond_false] at hv
              have : hAt (⟨e, h, v, false⟩ :: rs') hN' (0 + 1) = hAt rs' hN' 0 := by simp [hAt]
              rw [this, k3]
              simpa [eAt, hAt, vAt] using hv
          | succ m =>
            obtain ⟨j1, j2, j3, j4⟩ := k4 m o' (by simpa using ho')
            have e1 : ∀ m, eAt (⟨e, h, v, s⟩ :: rs') eN' (m + 1) = eAt rs' eN' m := fun m => by simp [eAt]
            have e2 : ∀ m, hAt (⟨e, h, v, s⟩ :: rs') hN' (m + 1) = hAt rs' hN' m := fun m => by simp [hAt]
            have e3 : ∀ m, vAt (⟨e, h, v, s⟩ :: rs') (m + 1) = vAt rs' m := fun m => by simp [vAt]
            have e4 : ∀ m, sAt (⟨e, h, v, s⟩ :: rs') (m + 1) = sAt rs' m := fun m => by simp [sAt]
            rw [e1, e1, e2, e2, e3, e4]
            refine ⟨by simpa [List.append_assoc] using j1, j2, j3, j4⟩

end Go.Hl
