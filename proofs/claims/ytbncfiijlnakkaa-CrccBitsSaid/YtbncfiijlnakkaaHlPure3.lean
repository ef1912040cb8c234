import Derived.Test.YtbncfiijlnakkaaHlPure2
import Derived.Laws.StructEq
/-! Hl: operations without memory are the program's (3): '=='. -/
namespace Go.Hl
open Go.RowKit

section
variable {P : Program} {ι : Map} {h : H} {w : World}

/-- A value of a type, by its cells. -/
def ValOf (ι : Map) (h : H) (u : TypeDesc) (us : List V) (x : Value) : Prop :=
  (aggD u = true ∧ ∃ c, x = .agg c ∧ RelVs ι h us c.toList) ∨ (aggD u = false ∧ ∃ a, us = [a] ∧ RelV ι h a x)

theorem part_val {us : List V} {c : Array Value} {o : Nat} {t : TypeId} {i : TypeInfo} {u : TypeDesc} (hr : RelVs ι h us c.toList) (hi : P.info? t = some i) (hu : P.underlying t = some u) (hsc : aggD u = false → i.size = 1)
    (hle : o + i.size ≤ us.length) : ∃ x, (part t c o).run P w = .ok x w ∧ ValOf ι h u ((us.drop o).take i.size) x := by
  cases hg : aggD u with
  | true =>
    have hp : pureOp.partOf us o i.size true = some (.agg ((us.drop o).take i.size)) := by simp [pureOp.partOf, hle]
    obtain ⟨v', h1, h2⟩ := partOf_rel (w := w) hp hr hi hu rfl hg
    simp only [RelV] at h2
    obtain ⟨c', rfl, h2⟩ := h2
    exact ⟨_, h1, .inl ⟨hg, c', rfl, h2⟩⟩
  | false =>
    have h1 := hsc hg
    have hlt : o < us.length := by omega
    have hp : pureOp.partOf us o i.size false = some us[o] := by simp [pureOp.partOf, hle, hlt]
    obtain ⟨v', h2, h3⟩ := partOf_rel (w := w) hp hr hi hu rfl hg
    refine ⟨_, h2, .inr ⟨hg, us[o], ?_, h3⟩⟩
    rw [h1, List.drop_eq_getElem_cons hlt]
    rfl

theorem fits_length : ∀ {sh : List Leaf} {l : List V}, fits sh l = true → sh.length = l.length
  | [], [], _ => rfl
  | a :: sh, v :: l, hf => by
    cases a <;> cases v <;> simp only [fits, Bool.false_eq_true] at hf
    all_goals simp [fits_length hf]
  | [], _ :: _, hf => by simp [fits] at hf
  | a :: _, [], hf => by cases a <;> simp [fits] at hf
theorem fits_append : ∀ {s r : List Leaf} {l : List V}, fits (s ++ r) l = true → fits s (l.take s.length) = true ∧ fits r (l.drop s.length) = true
  | [], r, l, hf => by simpa [fits] using hf
  | a :: s, r, v :: l, hf => by
    rw [List.cons_append] at hf
    cases a <;> cases v <;> simp only [fits, Bool.false_eq_true] at hf
    all_goals
      obtain ⟨h1, h2⟩ := fits_append hf
      exact ⟨by simpa [fits] using h1, by simpa using h2⟩
  | a :: _, _, [], hf => by cases a <;> simp [fits] at hf

theorem flatSh_info {d : Nat} {t : TypeId} {sh : List Leaf} (hf : flatSh P d t = some sh) : ∃ i u, P.info? t = some i ∧ P.underlying t = some u ∧ sh.length = i.size ∧ (aggD u = false → i.size = 1) := by
  cases d with
  | zero => simp [flatSh] at hf
  | succ d =>
    unfold flatSh at hf
    split at hf
    all_goals first
      | (rename_i h1 h2
         split at hf
         · rename_i hs
           injection hf with hf
           subst hf
           exact ⟨_, _, h1, h2, by simpa using hs.symm, fun _ => hs⟩
         · cases hf)
      | (rename_i h1 h2
         split at hf
         · cases hf
         · split at hf
           · split at hf
             · rename_i hs
               injection hf with hf
               subst hf
               exact ⟨_, _, h1, h2, hs, fun hg => by simp [aggD] at hg⟩
             · cases hf
           · cases hf)
      | cases hf

theorem equalIn_ok : ∀ (d D : Nat) (t : TypeId) (sh : List Leaf), d ≤ D → flatSh P d t = some sh → ∀ {u : TypeDesc} {us ms : List V} {x y : Value} {r : Bool}, P.underlying t = some u →
    fits sh us = true → fits sh ms = true → ValOf ι h u us x → ValOf ι h u ms y → cellsEq us ms = some r → (Op.equalIn D t x y).run P w = .ok r w
  | 0, _, _, _, _, hf, _, _, _, _, _, _, _, _, _, _, _, _ => by simp [flatSh] at hf
  | d + 1, 0, _, _, hd, _, _, _, _, _, _, _, _, _, _, _, _, _ => by omega
  | d + 1, D + 1, t, sh, hd, hf, u, us, ms, x, y, r, hu, hfu, hfm, hx, hy, hc => by
    unfold flatSh at hf
    rw [hu] at hf
    split at hf
    case h_5 => cases hf
    case h_4 _ _ fs hi hu' =>
      injection hu' with hu'
      subst hu'
      split at hf
      · cases hf
      · rename_i hst
        split at hf
        · rename_i l hl
          split at hf
          · rename_i hlen
            injection hf with hf
            subst hf
            have hst' : P.stoodInHeld t = false := by simpa using hst
            rcases hx with ⟨_, c, rfl, hcx⟩ | ⟨hg, _⟩
            case inr => simp [aggD] at hg
            rcases hy with ⟨_, c', rfl, hcy⟩ | ⟨hg, _⟩
            case inr => simp [aggD] at hg
            have hfo : P.fieldsOf t = fs := by simp [Program.fieldsOf, hu]
            rw [run_equalIn_struct w D t c c' (by rw [hfo]; exact hu) hst', hfo]
            have key : ∀ (F : List Field) (n : Nat) (l : List Leaf) (r : Bool), flatSh.flatFs P d F n = some l → fits l (us.drop n) = true → fits l (ms.drop n) = true → cellsEq (us.drop n) (ms.drop n) = some r → n ≤ us.length → n ≤ ms.length →
                (Op.eqFields D c c' F).run P w = .ok r w := by
              intro F
              induction F with
              | nil =>
                intro n l r hF h1 h2 h3 _ _
                simp only [flatSh.flatFs, Option.some.injEq] at hF
                subst hF
                have e1 := fits_length h1
                have e2 := fits_length h2
                rw [List.length_eq_zero_iff.1 e1.symm, List.length_eq_zero_iff.1 e2.symm] at h3
                simp only [cellsEq, Option.some.injEq] at h3
                subst h3
                simp [Op.eqFields]
              | cons f F ihF =>
                intro n l r hF h1 h2 h3 hn1 hn2
                simp only [flatSh.flatFs] at hF
                split at hF
                · rename_i hcond
                  split at hF
                  · rename_i s hs
                    cases hr : flatSh.flatFs P d F (n + s.length) with
                    | none => simp [hr] at hF
                    | some rest =>
                      simp only [hr, Option.map_some, Option.some.injEq] at hF
                      subst hF
                      obtain ⟨fi, fu, hfi, hfu', hsl, hsc⟩ := flatSh_info hs
                      obtain ⟨a1, a2⟩ := fits_append h1
                      obtain ⟨b1, b2⟩ := fits_append h2
                      have l1 := fits_length a1
                      have l2 := fits_length b1
                      simp only [List.length_take, List.length_drop] at l1 l2
                      have hx1 := part_val (w := w) (o := n) hcx hfi hfu' hsc (by rw [← hsl]; have := fits_length h1; simp at this; omega)
                      have hy1 := part_val (w := w) (o := n) hcy hfi hfu' hsc (by rw [← hsl]; have := fits_length h2; simp at this; omega)
                      obtain ⟨x1, hx1, hx2⟩ := hx1
                      obtain ⟨y1, hy1, hy2⟩ := hy1
                      rw [← List.take_append_drop s.length (us.drop n), ← List.take_append_drop s.length (ms.drop n)] at h3
                      obtain ⟨ra, rb, h4, h5, rfl⟩ := cellsEq_append (by simp; omega) h3
                      rw [← hsl] at hx2 hy2
                      have he := equalIn_ok d D f.type s (by omega) hs hfu' a1 b1 hx2 hy2 h4
                      simp only [List.drop_drop] at h5 a2 b2
                      have hrest := ihF (n + s.length) rest rb hr a2 b2 h5 (by omega) (by omega)
                      rw [Op.eqFields, if_pos hcond.1]
                      rw [← hcond.2] at hx1 hy1
                      simp only [Sem.run_bind, hx1, hy1, he, Result.andThen_ok]
                      cases ra
                      · simp
                      · simpa using hrest
                  · cases hF
                · cases hF
            exact key fs.toList 0 l r hl (by simpa using hfu) (by simpa using hfm) (by simpa using hc) (Nat.zero_le _) (Nat.zero_le _)
          · cases hf
        · cases hf
    all_goals
      rename_i hi hu'
      injection hu' with hu'
      subst hu'
      split at hf
      · injection hf with hf
        subst hf
        rcases hx with ⟨hg, _⟩ | ⟨_, a, rfl, hxa⟩
        · simp [aggD] at hg
        rcases hy with ⟨hg, _⟩ | ⟨_, b, rfl, hyb⟩
        · simp [aggD] at hg
        cases a <;> simp only [fits, Bool.false_eq_true] at hfu
        cases b <;> simp only [fits, Bool.false_eq_true] at hfm
        simp only [RelV] at hxa hyb
        subst hxa hyb
        simp only [cellsEq, Option.map_some, Bool.and_true, Option.some.injEq] at hc
        first
          | (subst hc; simp [Op.equalIn, run_underlying hu]; done)
          | (split at hc
             · rename_i hk
               subst hk
               injection hc with hc
               subst hc
               simp [Op.equalIn, run_underlying hu]
             · cases hc)
          | (subst hc
             simp only [Op.equalIn, Sem.run_bind, run_underlying hu, Result.andThen_ok, Sem.run_pure]
             congr 1
             rw [beq_toListBytes, ba_toList, ba_toList])
      · cases hf
end

end Go.Hl
