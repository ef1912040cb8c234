import Derived.Test.YtbncfiijlnakkaaHlT5
namespace Go.Proofs.Ytbncfiijlnakkaa
open Go.Hl
theorem zed_seal {s : List UInt8} {k : Nat} (hk : k + 4 ≤ s.length) : zed (sealL s k) k = zed s k := by
  unfold zed
  have h1 : (sealL s k).take k = s.take k := by
    unfold sealL
    rw [List.append_assoc, List.take_left' (by simp; omega)]
  have h2 : (sealL s k).drop (k + 4) = s.drop (k + 4) := by
    unfold sealL
    rw [List.drop_left' (by simp [le4_len]; omega)]
  rw [h1, h2]
theorem seal_seal {s : List UInt8} {k : Nat} (hk : k + 4 ≤ s.length) : sealL (sealL s k) k = sealL s k := by
  have hz := zed_seal hk
  have h1 : (sealL s k).take k = s.take k := by
    unfold sealL
    rw [List.append_assoc, List.take_left' (by simp; omega)]
  have h2 : (sealL s k).drop (k + 4) = s.drop (k + 4) := by
    unfold sealL
    rw [List.drop_left' (by simp [le4_len]; omega)]
  rw [sealL, hz, h1, h2]
  rfl
set_option maxHeartbeats 2000000 in
theorem crccSeals_eq (s : List UInt8) (at' : Int) (h : H) (h0 : -9223372036854775808 ≤ at') (h1 : at' < 9223372036854775808) : Does Try.prog 4 [.str s, .int .i64 at'] h = some (.bool true, h) := by
  refine Does_eq (n := 93) (rs := [.tmp 4]) Try.func4 (by kernel_rfl) rfl rfl rfl (by simp) fun σ hg => ?_
  have ht : (s.take 1500).length ≤ 1500 := by simp; omega
  have hf := fun h => few_eq s h
  generalize s.take 1500 = t at ht hf
  have hw : IntKind.i64.wrap ((t.length : Int) - 4) = (t.length : Int) - 4 := wrap_i64 (by omega) (by omega)
  by_cases hno : at' < 0 ∨ (t.length : Int) - 4 < at'
  · have s1 := fun h => seal_no t at' h (by omega) hno
    have s2 := fun h => sealed_no t at' h (by omega) hno
    by_cases a1 : at' < 0
    · simp [hg, ofVal, ofCell, len_str Try.underlying9, run_group, hf, s1, s2, hw, awake_eq, a1]
    · by_cases a2 : (t.length : Int) < 4
      · simp [hg, ofVal, ofCell, len_str Try.underlying9, run_group, hf, s1, s2, hw, awake_eq, a1, a2]
      · have a3 : (t.length : Int) - 4 < at' := by omega
        simp [hg, ofVal, ofCell, len_str Try.underlying9, run_group, hf, s1, s2, hw, awake_eq, a1, a2, a3]
  · obtain ⟨k, rfl⟩ : ∃ k : Nat, at' = k := ⟨at'.toNat, by omega⟩
    have hk : k + 4 ≤ t.length := by omega
    have hkl := sealL_len hk
    have s1 := fun h => seal_yes t k h (by omega) hk
    have s2 := fun h => sealed_yes t k h (by omega) hk
    have s3 := fun h => sealed_yes (sealL t k) k h (by omega) (by omega)
    have c1 : ¬ ((k : Int) < 0) := by omega
    have c2 : ¬ ((t.length : Int) < 4) := by omega
    have c3 : ¬ ((t.length : Int) - 4 < (k : Int)) := by omega
    have hw4 : IntKind.i64.wrap ((k : Int) + 4) = ((k + 4 : Nat) : Int) := wrap_i64_nat 4 (by omega)
    simp [hg, ofVal, ofCell, len_str Try.underlying9, run_group, hf, s1, c1, c2, c3, hw, awake_eq]
    refine (W_anyL (by kernel_rfl) (by kernel_rfl)).2 ?_
    simp [hg, ofVal, ofCell, do_slice' ti9, hw4]
    refine ⟨by omega, by omega, ⟨by omega, by omega⟩, by omega, ?_⟩
    have hn : ((k : Int) + 4).toNat = k + 4 := by omega
    have hz : t.take k ++ 0 :: 0 :: 0 :: 0 :: t.drop (k + 4) = zed t k := by simp [zed]
    have hzl := zed_len hk
    have h16 := fun h => of16_eq (zed t k) h (by omega)
    have hc := crcL_lt (zed t k)
    rw [hn, hz]
    simp [h16]
    refine (W_anyL (by kernel_rfl) (by kernel_rfl)).2 ?_
    have hse : sealL t k = t.take k ++ (le4 (crcL (zed t k)) ++ t.drop (k + 4)) := by simp [sealL]
    have hss := seal_seal hk
    generalize crcL (zed t k) = c at hc hse
    have s8 : ∀ Q, Ok (shiftOp .shr .u32 (c : Int) 8) Q ↔ Q (.int .u32 ((c / 256 : Nat) : Int)) := fun Q => ok_shr (y := 8)
    have s16 : ∀ Q, Ok (shiftOp .shr .u32 (c : Int) 16) Q ↔ Q (.int .u32 ((c / 65536 : Nat) : Int)) := fun Q => ok_shr (y := 16)
    have s24 : ∀ Q, Ok (shiftOp .shr .u32 (c : Int) 24) Q ↔ Q (.int .u32 ((c / 16777216 : Nat) : Int)) := fun Q => ok_shr (y := 24)
    have e0 : ∀ x : Int, IntKind.u8.wrap x = x % 256 := fun x => by simp [IntKind.wrap, IntKind.bits, IntKind.signed]
    have e1 : ((c : Int) % 256).toNat = c % 256 := by omega
    have e2 : (((c : Int) / 256) % 256).toNat = c / 256 % 256 := by omega
    have e3 : (((c : Int) / 65536) % 256).toNat = c / 65536 % 256 := by omega
    have e4 : (((c : Int) / 16777216) % 256).toNat = c / 16777216 % 256 := by omega
    have e5 : ∀ n : Nat, UInt8.ofNat (n % 256) = UInt8.ofNat n := fun n => by
      apply UInt8.toNat_inj.1
      simp
    simp [-List.all_eq_true, splice, hg, ofVal, ofCell, do_slice' ti9, hw4, do_conv' Try.underlying23 Try.underlying5, s8, s16, s24, do_buildSlice' ti30 ti5, do_bytesStr Try.underlying30 Try.underlying9 Try.underlying5, e0]
    refine ⟨by omega, by omega, ⟨by omega, by omega⟩, by omega, ?_⟩
    have hse' : t.take k ++ UInt8.ofNat c :: UInt8.ofNat (c / 256) :: UInt8.ofNat (c / 65536) :: UInt8.ofNat (c / 16777216) :: t.drop (k + 4) = sealL t k := hse.symm
    rw [hn, e1, e2, e3, e4, e5, e5, e5, e5]
    refine ⟨hse'.symm, ?_⟩
    have hcm : (t = sealL t k) = (sealL t k = t) := propext ⟨Eq.symm, Eq.symm⟩
    simp [s2, s3, hss, bin_eql_bool Try.underlying4, hse', hcm]
    exact leave_new (by simp) (by simp)
theorem crccSeals_law (s : List UInt8) (_ : s.length ≤ 140737488351232) (at' : Int) (hw : (Lit.int .i64 at').wf = true) : ∃ h', Does Try.prog 4 [.str s, .int .i64 at'] ⟨[], []⟩ = some (.bool true, h') := by
  have h := hw
  simp [Lit.wf, IntKind.min, IntKind.max, IntKind.bits, IntKind.signed] at h
  exact ⟨_, crccSeals_eq s at' _ (by omega) (by omega)⟩
end Go.Proofs.Ytbncfiijlnakkaa
