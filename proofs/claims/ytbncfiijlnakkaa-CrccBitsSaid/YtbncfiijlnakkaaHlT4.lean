import Derived.Test.YtbncfiijlnakkaaHlT3
import Derived.Test.YtbncfiijlnakkaaHlSimp4
namespace Go.Proofs.Ytbncfiijlnakkaa
open Go.Hl
theorem ti30 : ti Try.prog 30 = some ⟨1, false, 24, [.nils], .slice 5 1 1⟩ := by kernel_rfl
theorem ti5 : ti Try.prog 5 = some ⟨1, false, 1, [.int .u8 0], .int .u8⟩ := by kernel_rfl
def le4 (c : Nat) : List UInt8 := [UInt8.ofNat c, UInt8.ofNat (c / 256), UInt8.ofNat (c / 65536), UInt8.ofNat (c / 16777216)]
theorem laid_eq (c : Nat) (h : H) : Does Try.prog 42 [.int .u32 c] h = some (.str (le4 c), h) := by
  refine Does_eq (n := 16) (rs := [.tmp 2]) Try.func42 (by kernel_rfl) rfl rfl rfl (by simp) fun σ hg => ?_
  have s8 : ∀ Q, Ok (shiftOp .shr .u32 (c : Int) 8) Q ↔ Q (.int .u32 ((c / 256 : Nat) : Int)) := fun Q => ok_shr (y := 8)
  have s16 : ∀ Q, Ok (shiftOp .shr .u32 (c : Int) 16) Q ↔ Q (.int .u32 ((c / 65536 : Nat) : Int)) := fun Q => ok_shr (y := 16)
  have s24 : ∀ Q, Ok (shiftOp .shr .u32 (c : Int) 24) Q ↔ Q (.int .u32 ((c / 16777216 : Nat) : Int)) := fun Q => ok_shr (y := 24)
  simp [-List.all_eq_true, splice, hg, ofVal, ofCell, do_conv' Try.underlying23 Try.underlying5, s8, s16, s24, do_buildSlice' ti30 ti5, do_bytesStr Try.underlying30 Try.underlying9 Try.underlying5, wrap_u8]
  have e0 : ∀ x : Int, IntKind.u8.wrap x = x % 256 := fun x => by simp [IntKind.wrap, IntKind.bits, IntKind.signed]
  have e1 : ((c : Int) % 256).toNat = c % 256 := by omega
  have e2 : (IntKind.u8.wrap ((c : Int) / 256)).toNat = c / 256 % 256 := by rw [e0]; omega
  have e3 : (IntKind.u8.wrap ((c : Int) / 65536)).toNat = c / 65536 % 256 := by rw [e0]; omega
  have e4 : (IntKind.u8.wrap ((c : Int) / 16777216)).toNat = c / 16777216 % 256 := by rw [e0]; omega
  have e5 : ∀ n : Nat, UInt8.ofNat (n % 256) = UInt8.ofNat n := fun n => by
    apply UInt8.toNat_inj.1
    simp
  rw [e1, e2, e3, e4, e5, e5, e5, e5]
  exact ⟨rfl, leave_new (by simp) (by simp)⟩
theorem zeroed_eq (s : List UInt8) (k : Nat) (h : H) (hk : k + 4 ≤ s.length) (hs : s.length < 4611686018427387904) : Does Try.prog 41 [.str s, .int .i64 k] h = some (.str (s.take k ++ [0, 0, 0, 0] ++ s.drop (k + 4)), h) := by
  refine Does_eq (n := 14) (rs := [.tmp 4]) Try.func41 (by kernel_rfl) rfl rfl rfl (by simp) fun σ hg => ?_
  have hw : IntKind.i64.wrap ((k : Int) + 4) = ((k + 4 : Nat) : Int) := by
    rw [wrap_i64 (by omega) (by omega)]
    simp
  refine W_seq.2 ?_
  simp [hg, ofVal, ofCell]
  refine (W_anyL (by kernel_rfl) (by kernel_rfl)).2 ?_
  simp [hg, ofVal, ofCell, do_slice' ti9, hw]
  refine ⟨by omega, by omega, ⟨by omega, by omega⟩, ?_⟩
  rw [show ((k : Int) + 4).toNat = k + 4 by omega]
  trace_state
  simp
  omega
end Go.Proofs.Ytbncfiijlnakkaa
