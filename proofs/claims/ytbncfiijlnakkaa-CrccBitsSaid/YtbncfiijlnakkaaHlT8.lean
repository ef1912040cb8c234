import Derived.Test.YtbncfiijlnakkaaHlT7
namespace Go.Proofs.Ytbncfiijlnakkaa
open Go.Hl
theorem around (x : Int) (m : Nat) (hm : 0 < m) : ∃ k : Nat, k < m ∧ (x.tmod m + m).tmod m = (k : Int) := by
  have h1 := Int.lt_tmod_of_pos x (show (0 : Int) < m by omega)
  have h2 := Int.tmod_lt_of_pos (x.tmod m + m) (show (0 : Int) < m by omega)
  have h3 := Int.tmod_nonneg (m : Int) (show 0 ≤ x.tmod m + m by omega)
  exact ⟨((x.tmod m + m).tmod m).toNat, by omega, by omega⟩
theorem head_take (l : List V) (j : Nat) : ((l.drop j).take 1).head? = l[j]? := by
  cases h : l.drop j with
  | nil =>
    have : l.length ≤ j := by simpa using h
    simp [List.getElem?_eq_none this]
  | cons a m =>
    have := congrArg (fun l => l[0]?) h
    simp at this
    simp [this]
theorem byteCells_at (l : List UInt8) (j : Nat) (h : j < l.length) : (byteCells l)[j]? = some (.int .u8 (l[j].toNat : Nat)) := by
  simp [byteCells, h]
theorem byteCells_get (l : List UInt8) (j : Nat) (h : j < (byteCells l).length) : (byteCells l)[j] = .int .u8 ((l[j]'(by simpa [byteCells] using h)).toNat : Nat) := by
  simp [byteCells]
theorem byteCells_len (l : List UInt8) : (byteCells l).length = l.length := by simp [byteCells]
theorem shl_one : ∀ r : Nat, r < 8 → shiftOp .shl .u8 1 ((r : Nat) : Int) = some (.int .u8 ((2 ^ r : Nat) : Int)) := fun r hr => by
  obtain rfl | rfl | rfl | rfl | rfl | rfl | rfl | rfl := (by omega : r = 0 ∨ r = 1 ∨ r = 2 ∨ r = 3 ∨ r = 4 ∨ r = 5 ∨ r = 6 ∨ r = 7) <;> rfl
theorem pow_small : ∀ r : Nat, r < 8 → 2 ^ r < 256 ∧ 0 < 2 ^ r := fun r hr => by
  obtain rfl | rfl | rfl | rfl | rfl | rfl | rfl | rfl := (by omega : r = 0 ∨ r = 1 ∨ r = 2 ∨ r = 3 ∨ r = 4 ∨ r = 5 ∨ r = 6 ∨ r = 7) <;> decide
theorem splice_bytes (l : List UInt8) (j v : Nat) (hv : v < 256) (h : j < l.length) : splice (byteCells l) j [.int .u8 (v : Int)] = byteCells (l.set j (UInt8.ofNat v)) := by
  apply List.ext_getElem?
  intro i
  rw [splice_get _ _ _ (by simp [byteCells_len]; omega)]
  simp only [byteCells, List.getElem?_map, List.length_cons, List.length_nil]
  by_cases hi : j ≤ i ∧ i < j + (0 + 1)
  · have : i = j := by omega
    subst this
    rw [if_pos hi, List.getElem?_set_self h]
    simp
    omega
  · rw [if_neg hi, List.getElem?_set_ne (by omega)]
set_option maxHeartbeats 2000000 in
theorem crccBits_eq (s : List UInt8) (x y : Int) (h : H) (hx0 : -9223372036854775808 ≤ x) (hx1 : x < 9223372036854775808) (hy0 : -9223372036854775808 ≤ y) (hy1 : y < 9223372036854775808) : Does Try.prog 5 [.str s, .int .i64 x, .int .i64 y] h = some (.bool true, h) := by
  refine Does_eq (n := 66) (rs := [.tmp 6]) Try.func5 (by kernel_rfl) rfl rfl rfl (by simp) fun σ hg => ?_
  have ht : (s.take 1500).length ≤ 1500 := by simp; omega
  have hf := fun h => few_eq s h
  generalize s.take 1500 = t0 at ht hf
  have hL : (t0 ++ [49, 50, 51, 52] : List UInt8).length = t0.length + 4 := by simp
  generalize hT : (t0 ++ [49, 50, 51, 52] : List UInt8) = t at hL
  have hle : t0.length + 4 ≤ 9223372036854775807 := by omega
  have hw3 : IntKind.i64.wrap ((t.length : Int) - 3) = ((t.length - 3 : Nat) : Int) := by
    rw [wrap_i64 (by omega) (by omega)]; omega
  have hm : 0 < t.length - 3 := by omega
  have b1 := Int.lt_tmod_of_pos x (show (0 : Int) < ((t.length - 3 : Nat) : Int) by omega)
  have b2 := Int.tmod_lt_of_pos x (show (0 : Int) < ((t.length - 3 : Nat) : Int) by omega)
  obtain ⟨k, hk, hke⟩ := around x (t.length - 3) hm
  have hwa : IntKind.i64.wrap (x.tmod ((t.length - 3 : Nat) : Int) + t.length) = x.tmod ((t.length - 3 : Nat) : Int) + t.length := wrap_i64 (by omega) (by omega)
  have hwb : IntKind.i64.wrap (x.tmod ((t.length - 3 : Nat) : Int) + t.length - 3) = x.tmod ((t.length - 3 : Nat) : Int) + ((t.length - 3 : Nat) : Int) := by
    rw [wrap_i64 (by omega) (by omega)]; omega
  have hne : ¬ (((t.length - 3 : Nat) : Int) = 0) := by omega
  have hk4 : k + 4 ≤ t.length := by omega
  have s1 := fun h => seal_yes t k h (by omega) hk4
  have hsl := sealL_len hk4
  have hm8 : 0 < 8 * t.length := by omega
  have c1 := Int.lt_tmod_of_pos y (show (0 : Int) < ((8 * t.length : Nat) : Int) by omega)
  have c2 := Int.tmod_lt_of_pos y (show (0 : Int) < ((8 * t.length : Nat) : Int) by omega)
  obtain ⟨n, hn, hne8⟩ := around y (8 * t.length) hm8
  have hw8 : IntKind.i64.wrap (8 * (t.length : Int)) = ((8 * t.length : Nat) : Int) := by
    rw [wrap_i64 (by omega) (by omega)]; omega
  have hwc : IntKind.i64.wrap (y.tmod ((8 * t.length : Nat) : Int) + ((8 * t.length : Nat) : Int)) = y.tmod ((8 * t.length : Nat) : Int) + ((8 * t.length : Nat) : Int) := wrap_i64 (by omega) (by omega)
  have hn0 : ¬ (((8 * t.length : Nat) : Int) = 0) := by omega
  have hq : (n : Int).tdiv 8 = ((n / 8 : Nat) : Int) := rfl
  have hr : (n : Int).tmod 8 = ((n % 8 : Nat) : Int) := rfl
  have hwq : IntKind.i64.wrap ((n / 8 : Nat) : Int) = ((n / 8 : Nat) : Int) := wrap_i64 (by omega) (by omega)
  have hwr : IntKind.u64.wrap ((n % 8 : Nat) : Int) = ((n % 8 : Nat) : Int) := by
    simp only [IntKind.wrap, IntKind.bits, IntKind.signed]
    simp
    omega
  have hj : n / 8 < t.length := by omega
  have hr8 : n % 8 < 8 := by omega
  generalize n / 8 = j at *
  generalize n % 8 = r at *
  have hte : ¬ t = [] := fun x => by simp [x] at hj
  generalize hM8 : ((8 * t.length : Nat) : Int) = M8 at *
  generalize hM : ((t.length - 3 : Nat) : Int) = M at *
  simp [hg, ofVal, ofCell, hf, hT, hle, len_str Try.underlying9, hw3, hwa, hwb, hne, hke, s1, do_strBytes Try.underlying9 Try.underlying30 ti30 Try.underlying5, len_sl Try.underlying30, hsl, hte, hw8, hn0, hwc, hne8, hq, hr, hwq, hwr, hj, do_indexAddr' ti30, do_load' ti5, do_store' ti5, do_conv' Try.underlying3 Try.underlying29, shl_one r hr8, head_take, byteCells_get, byteCells_len, bytesOf_cells]
  have hb : (sealL t k)[j].toNat < 256 := (sealL t k)[j].toNat_lt
  have hp := pow_small r hr8
  have hxl : (sealL t k)[j].toNat ^^^ 2 ^ r < 256 := Nat.xor_lt_two_pow (n := 8) hb hp.1
  have hxx := xor_u8 hb hp.1
  rw [show (((2 ^ r : Nat)) : Int) = (2 : Int) ^ r by push_cast; rfl] at hxx
  rw [hxx]
  generalize hv : (sealL t k)[j].toNat ^^^ 2 ^ r = v at *
  have hy : (sealL t k)[j]? ≠ some (UInt8.ofNat v) := by
    rw [List.getElem?_eq_getElem (by omega)]
    intro hc
    injection hc with hc
    have hc' := congrArg UInt8.toNat hc
    have hof : (UInt8.ofNat v).toNat = v := by
      simp
      omega
    rw [hof, ← hv] at hc'
    have : (sealL t k)[j].toNat ^^^ ((sealL t k)[j].toNat ^^^ 2 ^ r) = 0 := by rw [← hc', Nat.xor_self]
    rw [← Nat.xor_assoc, Nat.xor_self, Nat.zero_xor] at this
    omega
  have hns := seal_byte hk4 hj (UInt8.ofNat v) hy
  have hsb := splice_bytes (sealL t k) j v hxl (by omega)
  have hbl : ((sealL t k).set j (UInt8.ofNat v)).length = t.length := by simp [hsl]
  have s2 := fun h => sealed_yes ((sealL t k).set j (UInt8.ofNat v)) k h (by omega) (by omega)
  have htk : List.take t.length (byteCells ((sealL t k).set j (UInt8.ofNat v))) = byteCells ((sealL t k).set j (UInt8.ofNat v)) := List.take_of_length_le (by rw [byteCells_len]; omega)
  simp [hg, ofVal, ofCell, hsb, awake_eq, run_group, do_bytesStr Try.underlying30 Try.underlying9 Try.underlying5, htk, bytesOf_cells, s2, hns, Nat.succ_le_of_lt hj]
  exact leave_new (by simp) (by simp)
theorem crccBits_law (s : List UInt8) (_ : s.length ≤ 140737488351232) (x : Int) (hx : (Lit.int .i64 x).wf = true) (y : Int) (hy : (Lit.int .i64 y).wf = true) : ∃ h', Does Try.prog 5 [.str s, .int .i64 x, .int .i64 y] ⟨[], []⟩ = some (.bool true, h') := by
  simp [Lit.wf, IntKind.min, IntKind.max, IntKind.bits, IntKind.signed] at hx hy
  exact ⟨_, crccBits_eq s x y _ (by omega) (by omega) (by omega) (by omega)⟩
end Go.Proofs.Ytbncfiijlnakkaa
