import Derived.Test.YtbncfiijlnakkaaHlAny
/-! Hl: operations whose order is open (2): whatever order is drawn, it comes to the run in the text's order. -/
namespace Go.Hl
open Go.RowKit

section
variable {call : CallT} {P : Program} {ops : Array Oper} {e eN : Env} {h hN : H} {rs : List Rec}

/-- The run in the text's order, and what holds of it. -/
structure Lex (call : CallT) (P : Program) (ops : Array Oper) (e : Env) (h : H) (rs : List Rec) (eN : Env) (hN : H) : Prop where
  len : rs.length = ops.size
  e0 : eAt rs eN 0 = e
  h0 : hAt rs hN 0 = h
  step : ∀ (m : Nat) (o : Oper), ops[m]? = some o →
      skipOf ops.toList o ((rs.take m).map (·.s)) (eAt rs eN m) = some (sAt rs m) ∧
      eAt rs eN (m + 1) = put (eAt rs eN m) o.dst (vAt rs m) ∧
      (sAt rs m = true → vAt rs m = .undef ∧ hAt rs hN (m + 1) = hAt rs hN m) ∧
      (sAt rs m = false → Hl.step call P o (ev (eAt rs eN m)) (hAt rs hN m) = some (vAt rs m, hAt rs hN (m + 1)))
  pairs : ∀ p ∈ floats P ops.toList (waits ops.toList []), pairOk P ops.toList rs hN p.1 p.2 = true

theorem lex_of {r : Env × H} (hr : runAny call P ops.toList (floats P ops.toList (waits ops.toList [])) e h = some r) : ∃ rs, Lex call P ops e h rs r.1 r.2 := by
  unfold runAny at hr
  cases hl : lexRun call P ops.toList ops.toList [] e h with
  | none => simp [hl] at hr
  | some x =>
    obtain ⟨rs, eN, hN⟩ := x
    simp only [hl, Option.bind_some] at hr
    split at hr
    · rename_i hp
      injection hr with hr
      subst hr
      obtain ⟨k1, k2, k3, k4⟩ := lexRun_spec _ _ _ _ _ _ _ hl
      exact ⟨rs, by rw [k1, Array.length_toList], k2, k3, fun m o ho => by simpa using k4 m o (by simpa using ho), fun p hp' => List.all_eq_true.1 hp p hp'⟩
    · cases hr

/-- What holds of such operations. -/
structure AnyOk (P : Program) (ops : Array Oper) : Prop where
  back : ∀ (i : Nat) (o : Oper), ops[i]? = some o → ∀ x ∈ o.after, Region.binds .any x = true → x.on < i
  guard : ∀ (i : Nat) (o : Oper) (q : Nat) (w : Bool), ops[i]? = some o → o.guard = some (q, w) → q < i ∧ bit (waits ops.toList []) i q = true ∧ ∃ c, dstOf ops.toList q = some c
  dst : ∀ (i j : Nat) (o p : Oper) (d : Tmp), ops[i]? = some o → ops[j]? = some p → i ≠ j → o.dst = some d → p.dst ≠ some d
  look : ∀ (i j : Nat) (o p : Oper) (d : Tmp), ops[i]? = some o → ops[j]? = some p → p.dst = some d → d ∈ looks ops.toList o → (j < i → bit (waits ops.toList []) i j = true) ∧ (i < j → bit (waits ops.toList []) j i = true)
  chain : ∀ (i j : Nat) (o p : Oper), ops[i]? = some o → ops[j]? = some p → isAct P o = true → isAct P p = true → j < i → bit (waits ops.toList []) i j = true

theorem anyOk_ok (ha : anyOk P ops.toList (waits ops.toList []) = true) : AnyOk P ops := by
  have key : ∀ (i : Nat) (o : Oper), ops[i]? = some o → _ := fun i o ho => by
    have hi : i < ops.toList.length := by
      have := (Array.getElem?_eq_some_iff.1 ho).1
      simpa using this
    have := List.all_eq_true.1 ha i (List.mem_range.2 hi)
    rw [Array.getElem?_toList, ho] at this
    simp only [Bool.and_eq_true] at this
    exact this
  have key2 : ∀ (i j : Nat) (o p : Oper), ops[i]? = some o → ops[j]? = some p → _ := fun i j o p ho hp => by
    have hj : j < ops.toList.length := by
      have := (Array.getElem?_eq_some_iff.1 hp).1
      simpa using this
    have := List.all_eq_true.1 (key i o ho).2 j (List.mem_range.2 hj)
    rw [Array.getElem?_toList, hp] at this
    simp only [Bool.and_eq_true] at this
    exact this
  refine ⟨fun i o ho x hx hb => ?_, fun i o q w ho hg => ?_, fun i j o p d ho hp hij hd => ?_, fun i j o p d ho hp hd hl => ?_, fun i j o p ho hp h1 h2 hlt => ?_⟩
  · have := List.all_eq_true.1 (key i o ho).1.1 x (by simpa using hx)
    simpa [hb] using this
  · have := (key i o ho).1.2
    rw [hg] at this
    simp only [Bool.and_eq_true, decide_eq_true_eq] at this
    exact ⟨this.1.1, this.1.2, Option.isSome_iff_exists.1 this.2⟩
  · have := (key2 i j o p ho hp).1.1
    rw [if_neg hij, hd] at this
    simpa using this
  · have := (key2 i j o p ho hp).1.2
    rw [hd] at this
    simp only at this
    rw [if_pos (by simpa using hl)] at this
    constructor
    · intro hlt
      rwa [if_pos hlt] at this
    · intro hlt
      rwa [if_neg (by omega), if_pos hlt] at this
  · have := (key2 i j o p ho hp).2
    rwa [if_pos (by simp [h1, h2, hlt])] at this

theorem put_getD (E : Env) (d : Option Tmp) (v : V) (t : Nat) (ht : t < E.length) : (put E d v).getD t .undef = if d = some t then v else E.getD t .undef := by
  cases d with
  | none => simp [put]
  | some d =>
    simp only [put, Option.some.injEq]
    split
    · rename_i hd
      subst hd
      simp [List.getD, ht]
    · rename_i hd
      simp [List.getD, List.getElem?_set_ne hd]
theorem put_length (E : Env) (d : Option Tmp) (v : V) : (put E d v).length = E.length := by cases d <;> simp [put]

theorem Lex.env (L : Lex call P ops e h rs eN hN) (A : AnyOk P ops) : ∀ i, i ≤ ops.size → (eAt rs eN i).length = e.length ∧ ∀ t, t < e.length →
    (∀ (j : Nat) (o : Oper), j < i → ops[j]? = some o → o.dst = some t → (eAt rs eN i).getD t .undef = vAt rs j) ∧
    ((∀ (j : Nat) (o : Oper), j < i → ops[j]? = some o → o.dst ≠ some t) → (eAt rs eN i).getD t .undef = e.getD t .undef)
  | 0, _ => ⟨by rw [L.e0], fun t _ => ⟨fun j o hj => by omega, fun _ => by rw [L.e0]⟩⟩
  | i + 1, hi => by
    have hlt : i < ops.size := by omega
    obtain ⟨k1, k2⟩ := L.env A i (by omega)
    have ho : ops[i]? = some ops[i] := Array.getElem?_eq_getElem hlt
    obtain ⟨-, he, -, -⟩ := L.step i _ ho
    refine ⟨by rw [he, put_length]; exact k1, fun t ht => ?_⟩
    obtain ⟨k3, k4⟩ := k2 t ht
    rw [he, put_getD _ _ _ _ (by omega)]
    constructor
    · intro j o hj hoj hd
      by_cases hji : j = i
      · subst hji
        rw [ho] at hoj
        injection hoj with hoj
        rw [hoj, if_pos hd]
      · rw [if_neg (fun h => A.dst j i o _ t hoj ho hji hd h)]
        exact k3 j o (by omega) hoj hd
    · intro hno
      rw [if_neg (hno i _ (by omega) ho)]
      exact k4 fun j o hj hoj => hno j o (by omega) hoj

theorem Lex.still (L : Lex call P ops e h rs eN hN) {i : Nat} {o : Oper} (ho : ops[i]? = some o) (hn : ¬ (isAct P o = true ∧ sAt rs i = false)) : hAt rs hN (i + 1) = hAt rs hN i := by
  obtain ⟨-, -, h1, h2⟩ := L.step i o ho
  cases hs : sAt rs i with
  | true => exact (h1 hs).2
  | false =>
    have h3 := h2 hs
    have hna : isAct P o = false := by
      cases ha : isAct P o with
      | true => exact absurd ⟨ha, hs⟩ hn
      | false => rfl
    unfold Hl.step at h3
    unfold isAct at hna
    split at h3
    · cases hp : pureOp P o (ev (eAt rs eN i)) with
      | none => simp [hp] at h3
      | some u =>
        simp only [hp, Option.map_some, Option.some.injEq, Prod.mk.injEq] at h3
        exact h3.2.symm
    · cases hp : readOp P o.op (ev (eAt rs eN i)) (hAt rs hN i) with
      | none => simp [hp] at h3
      | some u =>
        simp only [hp, Option.map_some, Option.some.injEq, Prod.mk.injEq] at h3
        exact h3.2.symm
    · rename_i hk
      rw [hk] at hna
      cases hna
    · rename_i hk
      rw [hk] at hna
      cases hna
    · cases h3

theorem Lex.same (L : Lex call P ops e h rs eN hN) {a : Nat} : ∀ b, a ≤ b → b ≤ ops.size → (∀ (k : Nat) (o : Oper), a ≤ k → k < b → ops[k]? = some o → ¬ (isAct P o = true ∧ sAt rs k = false)) → hAt rs hN b = hAt rs hN a
  | 0, hab, _, _ => by rw [Nat.le_zero.1 hab]
  | b + 1, hab, hb, hno => by
    by_cases he : a = b + 1
    · rw [he]
    · have hlt : b < ops.size := by omega
      rw [L.still (Array.getElem?_eq_getElem hlt) (hno b _ (by omega) (by omega) (Array.getElem?_eq_getElem hlt))]
      exact L.same b (by omega) (by omega) fun k o h1 h2 => hno k o h1 (by omega)

/-- The first, the last one that acts. -/
theorem first_act {p : Nat → Prop} [DecidablePred p] {a : Nat} : ∀ b, a ≤ b → (∃ k, a ≤ k ∧ k < b ∧ p k) → ∃ k, a ≤ k ∧ k < b ∧ p k ∧ ∀ j, a ≤ j → j < k → ¬ p j
  | 0, _, ⟨k, _, h, _⟩ => by omega
  | b + 1, hab, hx => by
    by_cases hb : ∃ k, a ≤ k ∧ k < b ∧ p k
    · obtain ⟨k, h1, h2, h3⟩ := first_act b (by obtain ⟨k, h1, h2, _⟩ := hb; omega) hb
      exact ⟨k, h1, by omega, h3⟩
    · obtain ⟨k, h1, h2, h3⟩ := hx
      have hkb : k = b := by
        rcases Nat.lt_or_ge k b with h4 | h4
        · exact absurd ⟨k, h1, h4, h3⟩ hb
        · omega
      subst hkb
      exact ⟨k, h1, h2, h3, fun j hj1 hj2 hj3 => hb ⟨j, hj1, hj2, hj3⟩⟩
theorem last_act {p : Nat → Prop} [DecidablePred p] {a : Nat} : ∀ b, (∃ k, a ≤ k ∧ k < b ∧ p k) → ∃ k, a ≤ k ∧ k < b ∧ p k ∧ ∀ j, k < j → j < b → ¬ p j
  | 0, ⟨k, _, h, _⟩ => by omega
  | b + 1, hx => by
    by_cases hpb : a ≤ b ∧ p b
    · exact ⟨b, hpb.1, by omega, hpb.2, fun j h1 h2 => by omega⟩
    · obtain ⟨k, h1, h2, h3⟩ := hx
      have hkb : k < b := by
        rcases Nat.lt_or_ge k b with h4 | h4
        · exact h4
        · have : k = b := by omega
          subst this
          exact absurd ⟨h1, h3⟩ hpb
      obtain ⟨k', k1, k2, k3, k4⟩ := last_act b ⟨k, h1, hkb, h3⟩
      refine ⟨k', k1, by omega, k3, fun j hj1 hj2 hj3 => ?_⟩
      rcases Nat.lt_or_ge j b with h4 | h4
      · exact k4 j hj1 h4 hj3
      · have : j = b := by omega
        subst this
        exact hpb ⟨by omega, hj3⟩

theorem floats_mem {B : List Nat} {L : List Oper} {j k : Nat} {oj ok : Oper} (hj : L[j]? = some oj) (hk : L[k]? = some ok) (h1 : isRead P oj = true) (h2 : isAct P ok = true) (h3 : (if j < k then !bit B k j else !bit B j k) = true) : (j, k) ∈ floats P L B := by
  unfold floats
  rw [List.mem_flatMap]
  refine ⟨j, List.mem_range.2 (List.getElem?_eq_some_iff.1 hj).1, ?_⟩
  rw [List.mem_filterMap]
  refine ⟨k, List.mem_range.2 (List.getElem?_eq_some_iff.1 hk).1, ?_⟩
  rw [hj, hk]
  simp only
  rw [if_pos (by simp only [h1, h2, h3, Bool.and_true])]
end

end Go.Hl
