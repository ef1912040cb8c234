import Derived.Test.YtbncfiijlnakkaaHlT6
import Derived.Test.YtbncfiijlnakkaaHlCrc2
namespace Go.Proofs.Ytbncfiijlnakkaa
open Go.Hl
theorem le4_inj {c d : Nat} (hc : c < 4294967296) (hd : d < 4294967296) (h : le4 c = le4 d) : c = d := by
  simp only [le4, List.cons.injEq, and_true] at h
  obtain ⟨h1, h2, h3, h4⟩ := h
  have f : ∀ a b : Nat, UInt8.ofNat a = UInt8.ofNat b → a % 256 = b % 256 := fun a b hab => by
    have := congrArg UInt8.toNat hab
    simpa using this
  have h1 := f _ _ h1
  have h2 := f _ _ h2
  have h3 := f _ _ h3
  have h4 := f _ _ h4
  omega
theorem field_seal {s : List UInt8} {k : Nat} (hk : k + 4 ≤ s.length) : ((sealL s k).drop k).take 4 = le4 (crcL (zed s k)) := by
  unfold sealL
  rw [List.append_assoc, List.drop_left' (by simp; omega), List.take_left' (le4_len _)]
/-- Sealed bytes of which one is another are not sealed. -/
theorem seal_byte {t : List UInt8} {k j : Nat} (hk : k + 4 ≤ t.length) (hj : j < t.length) (y : UInt8) (hy : (sealL t k)[j]? ≠ some y) : sealL ((sealL t k).set j y) k ≠ (sealL t k).set j y := by
  have hl := sealL_len hk
  have hj' : j < (sealL t k).length := by omega
  intro h
  have hz := zed_seal hk
  generalize hb : sealL t k = b at *
  have hk' : k + 4 ≤ (b.set j y).length := by simp; omega
  by_cases hin : k ≤ j ∧ j < k + 4
  · -- in the field: with noughts there all is as it was
    have e1 : (b.set j y).take k = b.take k := by rw [List.take_set_of_le hin.1]
    have e2 : (b.set j y).drop (k + 4) = b.drop (k + 4) := by rw [List.drop_set_of_lt hin.2]
    have e3 : zed (b.set j y) k = zed b k := by unfold zed; rw [e1, e2]
    have e4 : sealL (b.set j y) k = sealL b k := by unfold sealL; rw [e1, e2, e3]
    have e5 : sealL b k = b := by rw [← hb]; exact seal_seal hk
    rw [e4, e5] at h
    have h2 : b[j]? = (b.set j y)[j]? := by rw [← h]
    rw [List.getElem?_set_self hj'] at h2
    exact hy h2
  · have f1 := field_seal hk'
    rw [h] at f1
    have f2 : ((b.set j y).drop k).take 4 = (b.drop k).take 4 := by
      apply List.ext_getElem?
      intro i
      simp only [List.getElem?_take, List.getElem?_drop]
      split
      · rw [List.getElem?_set_ne (by omega)]
      · rfl
    have f3 := field_seal hk
    rw [hb] at f3
    rw [f2, f3, ← hz] at f1
    have f4 := le4_inj (crcL_lt _) (crcL_lt _) f1
    have f5 : zed (b.set j y) k = (zed b k).set j y := by
      apply List.ext_getElem?
      intro i
      have zl : (zed b k).length = b.length := zed_len (by omega)
      have zl' : (zed (b.set j y) k).length = b.length := by rw [zed_len hk']; simp
      by_cases hi : i = j
      · subst hi
        rw [List.getElem?_set_self (by omega)]
        unfold zed
        by_cases hik : i < k
        · rw [List.append_assoc, List.getElem?_append_left (by simp; omega), List.getElem?_take, if_pos hik, List.getElem?_set_self hj']
        · rw [List.getElem?_append_right (by simp; omega), List.getElem?_drop]
          simp only [List.length_append, List.length_take, List.length_set, List.length_cons, List.length_nil]
          rw [show k + 4 + (i - (min k b.length + (0 + 1 + 1 + 1 + 1))) = i by omega, List.getElem?_set_self hj']
      · rw [List.getElem?_set_ne (Ne.symm hi)]
        unfold zed
        by_cases hik : i < k
        · rw [List.append_assoc, List.append_assoc, List.getElem?_append_left (by simp; omega), List.getElem?_append_left (by simp; omega), List.getElem?_take, List.getElem?_take, List.getElem?_set_ne (Ne.symm hi)]
        · by_cases hik4 : i < k + 4
          · rw [List.getElem?_append_left (l₁ := (b.set j y).take k ++ [0, 0, 0, 0]) (by simp; omega), List.getElem?_append_left (l₁ := b.take k ++ [0, 0, 0, 0]) (by simp; omega),
              List.getElem?_append_right (l₁ := (b.set j y).take k) (by simp; omega), List.getElem?_append_right (l₁ := b.take k) (by simp; omega)]
            simp
          · rw [List.getElem?_append_right (by simp; omega), List.getElem?_append_right (by simp; omega), List.getElem?_drop, List.getElem?_drop]
            simp only [List.length_append, List.length_take, List.length_set]
            rw [List.getElem?_set_ne (by simp; omega)]
    rw [f5] at f4
    have zl : (zed b k).length = b.length := zed_len (by omega)
    have f6 := crcL_set (by omega) f4.symm
    have f7 : (zed b k)[j]? = b[j]? := by
      unfold zed
      by_cases hik : j < k
      · rw [List.append_assoc, List.getElem?_append_left (by simp; omega), List.getElem?_take, if_pos hik]
      · rw [List.getElem?_append_right (by simp; omega), List.getElem?_drop]
        simp only [List.length_append, List.length_take, List.length_cons, List.length_nil]
        rw [show k + 4 + (j - (min k b.length + (0 + 1 + 1 + 1 + 1))) = j by omega]
    rw [List.getElem?_eq_getElem (by omega), ← f6] at f7
    exact hy f7.symm
end Go.Proofs.Ytbncfiijlnakkaa
