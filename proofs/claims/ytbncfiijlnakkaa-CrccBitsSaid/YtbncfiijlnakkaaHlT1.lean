import Derived.Test.YtbncfiijlnakkaaHlSimp3
import Derived.Test.YtbncfiijlnakkaaHlCrc
import Derived.Test.YtbncfiijlnakkaaProg
import Derived.KernelRfl
namespace Go.Proofs.Ytbncfiijlnakkaa
open Go.Hl
theorem ti9 : ti Try.prog 9 = some ⟨1, false, 16, [.str []], .str⟩ := by kernel_rfl
theorem few_eq (s : List UInt8) (h : H) : Does Try.prog 15 [.str s] h = some (.str (s.take 1500), h) := by
  refine Does_eq (n := 8) Try.func15 (by kernel_rfl) rfl rfl rfl (by simp) fun σ hg => ?_
  simp [hg, ofVal, ofCell, len_str Try.underlying9, do_slice' ti9]
  by_cases hs : 1500 < s.length
  · have : (1500 : Int) < s.length := by omega
    simp only [this, if_true]
    refine ⟨⟨by omega, by omega⟩, ?_⟩
    simp
  · have : ¬ (1500 : Int) < s.length := by omega
    simp only [this, if_false]
    refine ⟨⟨by omega, by omega⟩, ?_⟩
    simp
    omega

theorem of16_eq (s : List UInt8) (h : H) (hs : s.length < 9223372036854775807) : Does Try.prog 16 [.str s] h = some (.int .u32 (crcL s), h) := by
  refine Does_eq (n := 33) Try.func16 (by kernel_rfl) rfl rfl rfl (by simp) fun σ hg => ?_
  simp [hg, ofVal, ofCell, len_str Try.underlying9]
  refine W_loop (fun n e h' => ∃ i : Nat, n = s.length - i ∧ i ≤ s.length ∧ e.length = 33 ∧ h' = ⟨h.blks, []⟩ ∧ get e 0 = .str s ∧ get e 4 = .int .i64 i ∧ get e 3 = .int .u32 (crcFrom 4294967295 (s.take i))) ?_ s.length _ _ ?_
  · rintro n e _ ⟨i, rfl, hi, hl, rfl, h0, h4, h3⟩
    obtain ⟨σ, rfl⟩ := of_len hl
    simp at h0 h4 h3
    have hc := crcFrom_lt (s.take i) (c := 4294967295) (by omega)
    generalize hcc : crcFrom 4294967295 (s.take i) = c at h3 hc
    simp [h0, h3, h4, ofVal, ofCell, len_str Try.underlying9, do_index' ti9, do_conv' Try.underlying5 Try.underlying23]
    split
    · rename_i hlt
      refine ⟨hlt, ?_⟩
      have hb : s[i].toNat < 256 := s[i].toNat_lt
      have hxor := xor_lt hc (by omega : s[i].toNat < 4294967296)
      rw [List.getElem?_eq_getElem hlt]
      simp [wrap_u32 (by omega : s[i].toNat < 4294967296), xor_u32 hc (by omega : s[i].toNat < 4294967296)]
      refine W_loop (fun n e h' => ∃ k : Nat, n = 8 - k ∧ k ≤ 8 ∧ e.length = 33 ∧ h' = ⟨h.blks, []⟩ ∧ get e 0 = .str s ∧ get e 4 = .int .i64 i ∧ get e 5 = .int .i64 k ∧ get e 3 = .int .u32 (steps k (c ^^^ s[i].toNat))) ?_ 8 _ _ ?_
      · rintro n e _ ⟨k, rfl, hk, hl, rfl, h0, h4, h5, h3⟩
        obtain ⟨σ, rfl⟩ := of_len hl
        simp at h0 h4 h5 h3
        have hx := steps_lt k hxor
        generalize hxx : steps k (c ^^^ s[i].toNat) = x at h3 hx
        simp [h0, h3, h4, h5, ofVal, ofCell]
        have hw : IntKind.u32.wrap ((x : Int) / 2) = ((x / 2 : Nat) : Int) := by
          have := wrap_u32 (n := x / 2) (by omega)
          simpa using this
        have hm : (x : Int).tmod 2 = ((x % 2 : Nat) : Int) := rfl
        rw [hw, hm]
        split
        · rename_i hk8
          have hi : IntKind.i64.wrap ((k : Int) + 1) = ((k + 1 : Nat) : Int) := by
            rw [wrap_i64 (by omega) (by omega)]
            simp
          rw [hi]
          split
          · rename_i h2
            have h2 : x % 2 = 1 := by omega
            have hz := xor_u32 (m := x / 2) (n := 2197175160) (by omega) (by omega)
            rw [show ((2197175160 : Nat) : Int) = 2197175160 from rfl] at hz
            rw [hz]
            simp only [Ok_some]
            refine ⟨8 - (k + 1), by omega, k + 1, rfl, by omega, rfl, ?_⟩
            rw [steps_succ, hxx, step_odd h2]
          · rename_i h2
            have h2 : ¬ x % 2 = 1 := by omega
            refine ⟨8 - (k + 1), by omega, k + 1, rfl, by omega, rfl, ?_⟩
            rw [steps_succ, hxx, step_even h2]
        · rename_i hk8
          have hi : IntKind.i64.wrap ((i : Int) + 1) = ((i + 1 : Nat) : Int) := by
            rw [wrap_i64 (by omega) (by omega)]
            simp
          have hk : k = 8 := by omega
          subst hk
          refine ⟨s.length - (i + 1), by omega, i + 1, rfl, by omega, hi, ?_⟩
          rw [crcFrom_take _ hlt, hcc, ← hxx]
          rfl
      · exact ⟨0, by simp [h0, h4, steps_zero]⟩
    · rename_i hlt
      have : i = s.length := by omega
      subst this
      rw [List.take_length] at hcc
      have hz := xor_u32 (m := c) (n := 4294967295) hc (by omega)
      rw [show ((4294967295 : Nat) : Int) = 4294967295 from rfl] at hz
      rw [hz]
      simp [crcL, hcc]
  · exact ⟨0, by simp [hg, crcFrom_nil]⟩
end Go.Proofs.Ytbncfiijlnakkaa
