import Derived.Test.YtbncfiijlnakkaaHlT2
namespace Go.Proofs.Ytbncfiijlnakkaa
open Go.Hl
theorem of14_eq (s : List UInt8) (h : H) (hs : s.length < 9223372036854775807) : Does Try.prog 14 [.str s] h = some (.int .u32 (crcL s), h) := by
  refine Does_eq (n := 24) Try.func14 (by kernel_rfl) rfl rfl rfl (by simp) fun σ hg => ?_
  simp [hg, ofVal, ofCell, len_str Try.underlying9]
  refine W_loop (fun n e h' => ∃ i : Nat, n = s.length - i ∧ i ≤ s.length ∧ e.length = 24 ∧ h' = ⟨h.blks, []⟩ ∧ get e 0 = .str s ∧ get e 6 = .int .i64 s.length ∧ get e 7 = .int .i64 i ∧ get e 3 = .int .u32 (crcFrom 4294967295 (s.take i))) ?_ s.length _ _ ?_
  · rintro n e _ ⟨i, rfl, hi, hl, rfl, h0, h6, h7, h3⟩
    obtain ⟨σ, rfl⟩ := of_len hl
    simp at h0 h6 h7 h3
    have hc := crcFrom_lt (s.take i) (c := 4294967295) (by omega)
    generalize hcc : crcFrom 4294967295 (s.take i) = c at h3 hc
    simp [h0, h3, h6, h7, ofVal, ofCell]
    split
    · rename_i hlt
      have hb : s[i].toNat < 256 := s[i].toNat_lt
      obtain ⟨z72, ht72⟩ : ∃ z, ti Try.prog 72 = some ⟨256, true, 1024, z, .arr 256 1 false⟩ := ⟨_, ti72⟩
      refine (W_anyL (by kernel_rfl) (by kernel_rfl)).2 ?_
      simp [h0, h3, h6, h7, ofVal, ofCell, do_index' ti9, do_index' ht72, tabV_len, shiftOp, IntKind.bits, do_conv' Try.underlying5 Try.underlying23, do_conv' Try.underlying23 Try.underlying5, table_eq, hlt, wrap_u8]
      have hm : ((c : Int) % 256) = ((c % 256 : Nat) : Int) := by simp
      have hx8 : c % 256 ^^^ s[i].toNat < 2 ^ 8 := Nat.xor_lt_two_pow (by omega) hb
      rw [hm, xor_u8 (by omega) hb]
      refine Ok_some.2 ⟨⟨by omega, by omega⟩, by omega, ?_⟩
      rw [Int.toNat_natCast, tabV_at (by omega)]
      have hd : (c : Int).fdiv 256 = ((c / 256 : Nat) : Int) := by
        rw [Int.fdiv_eq_ediv_of_nonneg _ (by omega)]
        simp
      have hst := steps_lt 8 (show c % 256 ^^^ s[i].toNat < 4294967296 by omega)
      have hi1 : IntKind.i64.wrap ((i : Int) + 1) = ((i + 1 : Nat) : Int) := by
        rw [wrap_i64 (by omega) (by omega)]
        simp
      rw [hd, hi1]
      simp only [Ok_some, bin_xor, Ok_map]
      rw [xor_u32 hst (by omega)]
      refine Ok_some.2 ⟨s.length - (i + 1), by omega, i + 1, rfl, by omega, rfl, ?_⟩
      rw [crcFrom_take _ hlt, hcc, eat_table]
    · rename_i hlt
      have : i = s.length := by omega
      subst this
      rw [List.take_length] at hcc
      have hz := xor_u32 (m := c) (n := 4294967295) hc (by omega)
      rw [show ((4294967295 : Nat) : Int) = 4294967295 from rfl] at hz
      rw [hz]
      simp [crcL, hcc]
  · exact ⟨0, by simp [hg, crcFrom_nil]⟩
theorem awake_eq (h : H) : Does Try.prog 13 [] h = some (.bool true, h) := by
  refine Does_eq (n := 3) Try.func13 (by kernel_rfl) rfl rfl rfl (by simp) fun σ hg => ?_
  have h1 : crcL [49, 50, 51, 52, 53, 54, 55, 56, 57] = 3808858755 := by decide +kernel
  simp [hg, ofVal, ofCell, of14_eq, h1]
theorem crccOf_eq (s : List UInt8) (h : H) : Does Try.prog 3 [.str s] h = some (.bool true, h) := by
  refine Does_eq (n := 13) Try.func3 (by kernel_rfl) rfl rfl rfl (by simp) fun σ hg => ?_
  have h14 := fun h => of14_eq (s.take 1500) h (by simp; omega)
  have h16 := fun h => of16_eq (s.take 1500) h (by simp; omega)
  simp [hg, ofVal, ofCell, awake_eq, few_eq, run_group, h14, h16]
theorem crccOf_law (s : List UInt8) (_ : s.length ≤ 140737488351232) : ∃ h', Does Try.prog 3 [.str s] ⟨[], []⟩ = some (.bool true, h') := ⟨_, crccOf_eq s _⟩
end Go.Proofs.Ytbncfiijlnakkaa
