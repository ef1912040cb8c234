import Derived.Test.YtbncfiijlnakkaaHlCrc
/-! Hl: a turned bit changes the check. -/
namespace Go.Hl
theorem xor_cancel {a b p : Nat} (h : a ^^^ p = b ^^^ p) : a = b := by
  have h2 : (a ^^^ p) ^^^ p = (b ^^^ p) ^^^ p := by rw [h]
  rwa [Nat.xor_assoc, Nat.xor_assoc, Nat.xor_self, Nat.xor_zero, Nat.xor_zero] at h2
theorem bitStep_inj {a b : Nat} (ha : a < 4294967296) (hb : b < 4294967296) (h : bitStep a = bitStep b) : a = b := by
  have top : ∀ x y : Nat, x < 4294967296 → y < 4294967296 → x / 2 ^^^ 2197175160 ≠ y / 2 := fun x y hx hy hxy => by
    have t1 : (x / 2).testBit 31 = false := Nat.testBit_lt_two_pow (by omega)
    have t2 : (y / 2).testBit 31 = false := Nat.testBit_lt_two_pow (by omega)
    have t3 : (x / 2 ^^^ 2197175160).testBit 31 = (y / 2).testBit 31 := by rw [hxy]
    have t4 : Nat.testBit 2197175160 31 = true := by decide
    rw [Nat.testBit_xor, t1, t2, t4] at t3
    cases t3
  by_cases a2 : a % 2 = 1
  · by_cases b2 : b % 2 = 1
    · rw [step_odd a2, step_odd b2] at h
      have := xor_cancel h
      omega
    · rw [step_odd a2, step_even b2] at h
      exact absurd h (top a b ha hb)
  · by_cases b2 : b % 2 = 1
    · rw [step_even a2, step_odd b2] at h
      exact absurd h.symm (top b a hb ha)
    · rw [step_even a2, step_even b2] at h
      omega
theorem steps_inj : ∀ n {a b : Nat}, a < 4294967296 → b < 4294967296 → steps n a = steps n b → a = b
  | 0, _, _, _, _, h => h
  | n + 1, a, b, ha, hb, h => bitStep_inj ha hb (steps_inj n (bitStep_lt ha) (bitStep_lt hb) h)
theorem eat_inj {c d b : Nat} (hc : c < 4294967296) (hd : d < 4294967296) (hb : b < 256) (h : eat c b = eat d b) : c = d :=
  xor_cancel (steps_inj 8 (xor_lt hc (by omega)) (xor_lt hd (by omega)) h)
theorem eat_inj' {c b b' : Nat} (hc : c < 4294967296) (hb : b < 256) (hb' : b' < 256) (h : eat c b = eat c b') : b = b' := by
  have h1 := steps_inj 8 (xor_lt hc (by omega)) (xor_lt hc (by omega)) h
  rw [Nat.xor_comm c b, Nat.xor_comm c b'] at h1
  exact xor_cancel h1
theorem crcFrom_inj : ∀ (l : List UInt8) {c d : Nat}, c < 4294967296 → d < 4294967296 → crcFrom c l = crcFrom d l → c = d
  | [], _, _, _, _, h => h
  | b :: l, _, _, hc, hd, h => eat_inj hc hd b.toNat_lt (crcFrom_inj l (eat_lt hc b.toNat_lt) (eat_lt hd b.toNat_lt) h)
theorem crcFrom_append : ∀ (l m : List UInt8) (c : Nat), crcFrom c (l ++ m) = crcFrom (crcFrom c l) m
  | [], _, _ => rfl
  | _ :: l, m, _ => crcFrom_append l m _
/-- One byte that differs, and nothing else. -/
theorem crcL_byte {l m : List UInt8} {b b' : UInt8} (h : crcL (l ++ b :: m) = crcL (l ++ b' :: m)) : b = b' := by
  have h1 := xor_cancel h
  rw [crcFrom_append, crcFrom_append] at h1
  have hc := crcFrom_lt l (c := 4294967295) (by omega)
  have h2 := crcFrom_inj m (eat_lt hc b.toNat_lt) (eat_lt hc b'.toNat_lt) h1
  exact UInt8.toNat_inj.1 (eat_inj' hc b.toNat_lt b'.toNat_lt h2)
theorem crcL_set {l : List UInt8} {j : Nat} {b : UInt8} (hj : j < l.length) (h : crcL (l.set j b) = crcL l) : b = l[j] := by
  rw [List.set_eq_take_append_cons_drop, if_pos hj] at h
  have e : l = l.take j ++ l[j] :: l.drop (j + 1) := by
    rw [List.getElem_cons_drop hj, List.take_append_drop]
  have h' : crcL (l.take j ++ b :: l.drop (j + 1)) = crcL (l.take j ++ l[j] :: l.drop (j + 1)) := by rw [h, ← e]
  exact crcL_byte h'
end Go.Hl
