import Derived.Test.YtbncfiijlnakkaaHlT4
namespace Go.Proofs.Ytbncfiijlnakkaa
open Go.Hl
def zed (s : List UInt8) (k : Nat) : List UInt8 := s.take k ++ [0, 0, 0, 0] ++ s.drop (k + 4)
def sealL (s : List UInt8) (k : Nat) : List UInt8 := s.take k ++ le4 (crcL (zed s k)) ++ s.drop (k + 4)
theorem le4_len (c : Nat) : (le4 c).length = 4 := rfl
theorem zed_len {s : List UInt8} {k : Nat} (hk : k + 4 ≤ s.length) : (zed s k).length = s.length := by
  simp [zed]
  omega
theorem zed_take {s : List UInt8} {k : Nat} (hk : k + 4 ≤ s.length) : (zed s k).take k = s.take k := by
  unfold zed
  rw [List.append_assoc, List.take_left' (by simp; omega)]
theorem zed_drop {s : List UInt8} {k : Nat} (hk : k + 4 ≤ s.length) : (zed s k).drop (k + 4) = s.drop (k + 4) := by
  unfold zed
  rw [List.drop_left' (by simp; omega)]
theorem wrap_i64_nat {k : Nat} (m : Nat) (h : k + m < 9223372036854775808) : IntKind.i64.wrap ((k : Int) + (m : Int)) = ((k + m : Nat) : Int) := by
  rw [wrap_i64 (by omega) (by omega)]
  simp
theorem seal_no (s : List UInt8) (at' : Int) (h : H) (hs : s.length < 4611686018427387904) (hk : at' < 0 ∨ (s.length : Int) - 4 < at') : Does Try.prog 17 [.str s, .int .i64 at'] h = some (.str [], h) := by
  refine Does_eq (n := 30) (rs := [.tmp 4]) Try.func17 (by kernel_rfl) rfl rfl rfl (by simp) fun σ hg => ?_
  have hw : IntKind.i64.wrap ((s.length : Int) - 4) = (s.length : Int) - 4 := wrap_i64 (by omega) (by omega)
  simp [hg, ofVal, ofCell, len_str Try.underlying9, run_group, hw]
  intro h1 h2
  omega
theorem seal_yes (s : List UInt8) (k : Nat) (h : H) (hs : s.length < 4611686018427387904) (hk : k + 4 ≤ s.length) : Does Try.prog 17 [.str s, .int .i64 k] h = some (.str (sealL s k), h) := by
  refine Does_eq (n := 30) (rs := [.tmp 4]) Try.func17 (by kernel_rfl) rfl rfl rfl (by simp) fun σ hg => ?_
  have hw : IntKind.i64.wrap ((s.length : Int) - 4) = (s.length : Int) - 4 := wrap_i64 (by omega) (by omega)
  have hw4 : IntKind.i64.wrap ((k : Int) + 4) = ((k + 4 : Nat) : Int) := wrap_i64_nat 4 (by omega)
  have c1 : ¬ ((k : Int) < 0) := by omega
  have c2 : ¬ ((s.length : Int) - 4 < (k : Int)) := by omega
  have hz := fun h => zeroed_eq s k h hk hs
  rw [show s.take k ++ [0, 0, 0, 0] ++ s.drop (k + 4) = zed s k from rfl] at hz
  have hzl := zed_len hk
  have ho := fun h => of14_eq (zed s k) h (by omega)
  simp [hg, ofVal, ofCell, len_str Try.underlying9, run_group, hw, c1, c2, hz]
  refine (W_anyL (by kernel_rfl) (by kernel_rfl)).2 ?_
  simp [hg, ofVal, ofCell, do_slice' ti9, hw4, ho, laid_eq, hzl]
  rw [show ((k : Int) + 4).toNat = k + 4 by omega, le4_len, List.take_of_length_le (by omega : (zed s k).length ≤ s.length), zed_take hk, zed_drop hk]
  refine ⟨by omega, by omega, ⟨by omega, by omega⟩, by omega, ?_⟩
  simp [sealL]
theorem sealL_len {s : List UInt8} {k : Nat} (hk : k + 4 ≤ s.length) : (sealL s k).length = s.length := by
  simp [sealL, le4_len]
  omega
theorem sealed_no (s : List UInt8) (at' : Int) (h : H) (hs : s.length < 4611686018427387904) (hk : at' < 0 ∨ (s.length : Int) - 4 < at') : Does Try.prog 18 [.str s, .int .i64 at'] h = some (.bool false, h) := by
  refine Does_eq (n := 14) (rs := [.tmp 4]) Try.func18 (by kernel_rfl) rfl rfl rfl (by simp) fun σ hg => ?_
  have h0 := fun h => seal_no s at' h hs hk
  by_cases he : s = []
  · simp [hg, ofVal, ofCell, run_group, h0, he]
  · have : ¬ [] = s := fun x => he x.symm
    simp [hg, ofVal, ofCell, run_group, h0, he, this]
theorem sealed_yes (s : List UInt8) (k : Nat) (h : H) (hs : s.length < 4611686018427387904) (hk : k + 4 ≤ s.length) : Does Try.prog 18 [.str s, .int .i64 k] h = some (.bool (decide (sealL s k = s)), h) := by
  refine Does_eq (n := 14) (rs := [.tmp 4]) Try.func18 (by kernel_rfl) rfl rfl rfl (by simp) fun σ hg => ?_
  have h0 := fun h => seal_yes s k h hs hk
  have he : s ≠ [] := fun x => by simp [x] at hk
  simp [hg, ofVal, ofCell, run_group, h0, he]
end Go.Proofs.Ytbncfiijlnakkaa
