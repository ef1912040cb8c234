import Derived.Test.YtbncfiijlnakkaaHlAny2
/-! Hl: operations whose order is open (3). -/
namespace Go.Hl
open Go.RowKit

def Listed (listed : Array Bool) (i : Nat) : Prop := listed.getD i false = true

section
variable {call : CallT} {P : Program} {ops : Array Oper} {e eN : Env} {h hN : H} {rs : List Rec} {base : Nat}

/-- Behind any of the operations, in whatever order. -/
structure Inv (P : Program) (ops : Array Oper) (e : Env) (rs : List Rec) (hN : H) (base : Nat) (ι0 : Map) (h : H) (a0 : Act) (w0 : World) (listed : Array Bool) (a : Act) (w : World) (ι : Map) (m : Nat) : Prop where
  size : listed.size = ops.size
  closed : ∀ (i : Nat) (o : Oper), Listed listed i → ops[i]? = some o → ∀ x ∈ o.after, Region.binds .any x = true → Listed listed x.on
  cut : m ≤ ops.size ∧ ∀ (k : Nat) (o : Oper), ops[k]? = some o → isAct P o = true → sAt rs k = false → (Listed listed k ↔ k < m)
  len : e.length = a.tmps.size
  done : ∀ (t j : Nat) (o : Oper), t < e.length → ops[j]? = some o → o.dst = some t → Listed listed j → RelV ι (hAt rs hN m) (vAt rs j) (a.tmps.getD t Go.undef)
  left : ∀ t, t < e.length → (∀ (j : Nat) (o : Oper), ops[j]? = some o → o.dst = some t → ¬ Listed listed j) → RelV ι (hAt rs hN m) (e.getD t .undef) (a.tmps.getD t Go.undef)
  skips : ∀ (j : Nat) (o : Oper) (d : Tmp), ops[j]? = some o → o.dst = some d → Listed listed j → sAt rs j = true → d < e.length → a.tmps.getD d Go.undef = Go.undef
  rel : Rel ι base (hAt rs hN m) w
  agree : Agree ι0 h ι (hAt rs hN m)
  below : Below base w0 w
  defers : a.defers = a0.defers

theorem listed_set {listed : Array Bool} {i : Nat} (hi : i < listed.size) (j : Nat) : Listed (listed.setIfInBounds i true) j ↔ j = i ∨ Listed listed j := by
  unfold Listed
  by_cases h : j = i
  · subst h
    simp [hi]
  · rw [getD_set_ne false (Ne.symm h)]
    simp [h]

theorem putA_getD (a : Act) (d : Option Tmp) (v : Value) (t : Nat) (ht : t < a.tmps.size) : (a.put d v).tmps.getD t Go.undef = if d = some t then v else a.tmps.getD t Go.undef := by
  cases d with
  | none => simp [Act.put]
  | some d =>
    simp only [Act.put, Option.some.injEq]
    by_cases hd : d = t
    · subst hd
      simp [ht]
    · rw [if_neg hd]
      simp only [Array.getD_eq_getD_getElem?]
      rw [Array.getElem?_setIfInBounds_ne hd]

open Classical in
/-- One more has come up. -/
theorem Inv.next (L : Lex call P ops e h rs eN hN) (A : AnyOk P ops) {ι0 : Map} {a0 : Act} {w0 : World} {listed : Array Bool} {a : Act} {w : World} {ι ι' : Map} {m m' : Nat} {i : Nat} {o : Oper} {v' : Value} {w' : World}
    (I : Inv P ops e rs hN base ι0 h a0 w0 listed a w ι m) (hi : i ∈ Region.ready .any ops listed) (ho : ops[i]? = some o)
    (hm' : m' ≤ ops.size ∧ ∀ (k : Nat) (o : Oper), ops[k]? = some o → isAct P o = true → sAt rs k = false → ((k = i ∨ Listed listed k) ↔ k < m'))
    (hv : RelV ι' (hAt rs hN m') (vAt rs i) v') (hs : sAt rs i = true → v' = Go.undef) (hr : Rel ι' base (hAt rs hN m') w') (ha : Agree ι (hAt rs hN m) ι' (hAt rs hN m')) (hb : Below base w w') :
    Inv P ops e rs hN base ι0 h a0 w0 (listed.setIfInBounds i true) (a.put o.dst v') w' ι' m' := by
  obtain ⟨hun, o', ho', hall⟩ := mem_ready.1 hi
  rw [ho] at ho'
  injection ho' with ho'
  subst ho'
  have hilt : i < listed.size := by
    rw [I.size]
    exact (Array.getElem?_eq_some_iff.1 ho).1
  have hls := fun j => listed_set hilt j
  refine ⟨by simp [I.size], fun j p hj hp x hx hbx => ?_, ⟨hm'.1, fun k p hk h1 h2 => by rw [hls]; exact hm'.2 k p hk h1 h2⟩, by rw [put_size]; exact I.len, fun t j p ht hp hd hj => ?_, fun t ht hno => ?_, fun j p d hp hd hj hsk hdl => ?_, hr, I.agree.trans ha, I.below.trans hb, by rw [put_defers]; exact I.defers⟩
  · rw [hls]
    rcases (hls j).1 hj with rfl | hj
    · rw [ho] at hp
      injection hp with hp
      subst hp
      exact .inr (hall x hx hbx)
    · exact .inr (I.closed j p hj hp x hx hbx)
  · rw [putA_getD _ _ _ _ (I.len ▸ ht)]
    rcases (hls j).1 hj with rfl | hj
    · rw [ho] at hp
      injection hp with hp
      subst hp
      rw [if_pos hd]
      exact hv
    · by_cases hji : j = i
      · subst hji
        rw [ho] at hp
        injection hp with hp
        subst hp
        rw [if_pos hd]
        exact hv
      · rw [if_neg (fun hdo => A.dst j i p o t hp ho hji hd hdo)]
        exact (I.done t j p ht hp hd hj).step ha
  · rw [putA_getD _ _ _ _ (I.len ▸ ht), if_neg (fun hdo => hno i o ho hdo ((hls i).2 (.inl rfl)))]
    exact (I.left t ht fun j p hp hd hj => hno j p hp hd ((hls j).2 (.inr hj))).step ha
  · rw [putA_getD _ _ _ _ (I.len ▸ hdl)]
    rcases (hls j).1 hj with rfl | hj
    · rw [ho] at hp
      injection hp with hp
      subst hp
      rw [if_pos hd]
      exact hs hsk
    · by_cases hji : j = i
      · subst hji
        rw [ho] at hp
        injection hp with hp
        subst hp
        rw [if_pos hd]
        exact hs hsk
      · rw [if_neg (fun hdo => A.dst j i p o d hp ho hji hd hdo)]
        exact I.skips j p d hp hd hj hsk hdl

/-- Its operands are what they are in the text's order. -/
theorem Inv.look (L : Lex call P ops e h rs eN hN) (A : AnyOk P ops) {ι0 : Map} {a0 : Act} {w0 : World} {listed : Array Bool} {a : Act} {w : World} {ι : Map} {m : Nat} {i : Nat} {o : Oper}
    (I : Inv P ops e rs hN base ι0 h a0 w0 listed a w ι m) (hi : ¬ Listed listed i) (hbits : ∀ k, bit (waits ops.toList []) i k = true → Listed listed k) (hlb : ∀ j p k, ops[j]? = some p → Listed listed j → bit (waits ops.toList []) j k = true → Listed listed k)
    (ho : ops[i]? = some o) {t : Tmp} (ht : t ∈ looks ops.toList o) : RelV ι (hAt rs hN m) ((eAt rs eN i).getD t .undef) (a.tmps.getD t Go.undef) := by
  have hil : i < ops.size := (Array.getElem?_eq_some_iff.1 ho).1
  obtain ⟨hlen, henv⟩ := L.env A i (by omega)
  by_cases hte : t < e.length
  · obtain ⟨k1, k2⟩ := henv t hte
    by_cases hw : ∃ (j : Nat) (p : Oper), ops[j]? = some p ∧ p.dst = some t
    · obtain ⟨j, p, hp, hd⟩ := hw
      obtain ⟨l1, l2⟩ := A.look i j o p t ho hp hd ht
      rcases Nat.lt_trichotomy j i with hji | hji | hji
      · rw [k1 j p hji hp hd]
        exact I.done t j p hte hp hd (hbits j (l1 hji))
      · subst hji
        rw [k2 fun j' p' hj' hp' hd' => A.dst j' j p' p t hp' hp (by omega) hd' hd]
        refine I.left t hte fun j' p' hp' hd' hj' => ?_
        by_cases hjj : j' = j
        · subst hjj; exact hi hj'
        · exact A.dst j' j p' p t hp' hp hjj hd' hd
      · have hnj : ¬ Listed listed j := fun hj => hi (hlb j p i hp hj (l2 hji))
        rw [k2 fun j' p' hj' hp' hd' => A.dst j' j p' p t hp' hp (by omega) hd' hd]
        refine I.left t hte fun j' p' hp' hd' hj' => ?_
        by_cases hjj : j' = j
        · subst hjj; exact hnj hj'
        · exact A.dst j' j p' p t hp' hp hjj hd' hd
    · rw [k2 fun j p _ hp hd => hw ⟨j, p, hp, hd⟩]
      exact I.left t hte fun j p hp hd => absurd ⟨j, p, hp, hd⟩ hw
  · have : (eAt rs eN i).getD t .undef = .undef := by
      rw [List.getD_eq_getElem?_getD, List.getElem?_eq_none (by rw [hlen]; exact Nat.le_of_not_lt hte)]
      rfl
    rw [this]
    exact RelV.undef _

/-- A read reads here what it reads in the text's order. -/
theorem Inv.reads (L : Lex call P ops e h rs eN hN) {ι0 : Map} {a0 : Act} {w0 : World} {listed : Array Bool} {a : Act} {w : World} {ι : Map} {m : Nat} {i : Nat} {o : Oper}
    (I : Inv P ops e rs hN base ι0 h a0 w0 listed a w ι m) (hi : ¬ Listed listed i) (hbits : ∀ k, bit (waits ops.toList []) i k = true → Listed listed k) (hlb : ∀ j p k, ops[j]? = some p → Listed listed j → bit (waits ops.toList []) j k = true → Listed listed k)
    (ho : ops[i]? = some o) (hrd : isRead P o = true) (hsk : sAt rs i = false) (hread : readOp P o.op (ev (eAt rs eN i)) (hAt rs hN i) = some (vAt rs i)) :
    readOp P o.op (ev (eAt rs eN i)) (hAt rs hN m) = some (vAt rs i) := by
  have hil : i < ops.size := (Array.getElem?_eq_some_iff.1 ho).1
  have hri : ∃ r, rs[i]? = some r := ⟨_, List.getElem?_eq_getElem (by rw [L.len]; exact hil)⟩
  obtain ⟨ri, hri⟩ := hri
  have pair : ∀ k p, ops[k]? = some p → isAct P p = true → sAt rs k = false → (if i < k then !bit (waits ops.toList []) k i else !bit (waits ops.toList []) i k) = true →
      readOp P o.op (ev (eAt rs eN i)) (if i < k then hAt rs hN (k + 1) else hAt rs hN k) = some (vAt rs i) := fun k p hp hact hks hb => by
    have hkl : k < ops.size := (Array.getElem?_eq_some_iff.1 hp).1
    obtain ⟨rk, hrk⟩ : ∃ r, rs[k]? = some r := ⟨_, List.getElem?_eq_getElem (by rw [L.len]; exact hkl)⟩
    have hm := L.pairs (i, k) (floats_mem (by simpa using ho) (by simpa using hp) hrd hact hb)
    unfold pairOk at hm
    rw [Array.getElem?_toList, ho, hri, hrk] at hm
    simp only [Bool.or_eq_true] at hm
    have e1 : sAt rs i = ri.s := by simp [sAt, hri]
    have e2 : sAt rs k = rk.s := by simp [sAt, hrk]
    rw [e1] at hsk
    rw [e2] at hks
    rcases hm with (hm | hm) | hm
    · rw [hsk] at hm; cases hm
    · rw [hks] at hm; cases hm
    · have e3 : eAt rs eN i = ri.e := by simp [eAt, hri]
      have e4 : vAt rs i = ri.v := by simp [vAt, hri]
      have e5 : hAt rs hN k = rk.h := by simp [hAt, hrk]
      rw [e3, e4, e5]
      unfold sameAs at hm
      split at hm
      · rename_i u hu
        rw [hu, V.same_eq hm]
      · cases hm
  obtain ⟨hm1, hm2⟩ := I.cut
  have dec : ∀ k, Decidable (∃ p, ops[k]? = some p ∧ isAct P p = true ∧ sAt rs k = false) := fun k => Classical.propDecidable _
  rcases Nat.lt_or_ge i m with him | him
  · by_cases hx : ∃ k, i ≤ k ∧ k < m ∧ ∃ p, ops[k]? = some p ∧ isAct P p = true ∧ sAt rs k = false
    · obtain ⟨k, h1, h2, ⟨p, hp, hact, hks⟩, h4⟩ := last_act (p := fun k => ∃ p, ops[k]? = some p ∧ isAct P p = true ∧ sAt rs k = false) m hx
      have hkl : Listed listed k := (hm2 k p hp hact hks).2 h2
      have hik : i < k := by
        rcases Nat.lt_or_eq_of_le h1 with h5 | h5
        · exact h5
        · rw [← h5] at hkl
          exact absurd hkl hi
      have hnb : bit (waits ops.toList []) k i = false := by
        cases hb : bit (waits ops.toList []) k i with
        | false => rfl
        | true => exact absurd (hlb k p i hp hkl hb) hi
      have := pair k p hp hact hks (by rw [if_pos hik, hnb]; rfl)
      rw [if_pos hik] at this
      rw [L.same (a := k + 1) m (by omega) hm1 fun j p' hj1 hj2 hp' hact' => h4 j (by omega) hj2 ⟨p', hp', hact'.1, hact'.2⟩]
      exact this
    · rw [L.same (a := i) m (by omega) hm1 fun j p' hj1 hj2 hp' hact' => hx ⟨j, hj1, hj2, p', hp', hact'.1, hact'.2⟩]
      exact hread
  · by_cases hx : ∃ k, m ≤ k ∧ k < i ∧ ∃ p, ops[k]? = some p ∧ isAct P p = true ∧ sAt rs k = false
    · obtain ⟨k, h1, h2, ⟨p, hp, hact, hks⟩, h4⟩ := first_act (p := fun k => ∃ p, ops[k]? = some p ∧ isAct P p = true ∧ sAt rs k = false) i him hx
      have hkl : ¬ Listed listed k := fun hk => by
        have := (hm2 k p hp hact hks).1 hk
        omega
      have hnb : bit (waits ops.toList []) i k = false := by
        cases hb : bit (waits ops.toList []) i k with
        | false => rfl
        | true => exact absurd (hbits k hb) hkl
      have := pair k p hp hact hks (by rw [if_neg (by omega), hnb]; rfl)
      rw [if_neg (by omega)] at this
      rw [← L.same (a := m) k h1 (by omega) fun j p' hj1 hj2 hp' hact' => h4 j hj1 hj2 ⟨p', hp', hact'.1, hact'.2⟩]
      exact this
    · rw [← L.same (a := m) i him (by omega) fun j p' hj1 hj2 hp' hact' => hx ⟨j, hj1, hj2, p', hp', hact'.1, hact'.2⟩]
      exact hread
end

end Go.Hl
