import Derived.Test.YtbncfiijlnakkaaHlSimp
/-! Hl: more rules that a walk uses by itself. -/
namespace Go.Hl
section
variable {P : Program} {call : CallT} {d : Option Tmp} {t s u : TypeId} {p : String} {a : Array Edge} {g : Option (Nat × Bool)} {ρ : Operand → V} {h : H} {x y : Operand} {i : TI}

@[simp] theorem ok_optNone {n m : Nat} {Q : Nat → Prop} : Ok (optIdx n m none) Q ↔ Q m := Ok_some
@[simp] theorem ok_optSome {n m : Nat} {k : IntKind} {j : Int} {Q : Nat → Prop} : Ok (optIdx n m (some (.int k j))) Q ↔ (0 ≤ j ∧ j ≤ n) ∧ Q j.toNat := by
  simp only [optIdx, idx, Ok_if_none, Ok_some]
@[simp] theorem ok_idxLt {n : Nat} {k : IntKind} {j : Int} {Q : Nat → Prop} : Ok (idxLt n (.int k j)) Q ↔ (0 ≤ j ∧ j < n) ∧ Q j.toNat := by
  simp only [idxLt, Ok_if_none, Ok_some]

/-- Operations on values, by their type. -/
def indexV (i : TI) (x y : V) : Option V := match i.d, x with
  | .str, .str s => match idxLt s.length y with
    | some j => some (.int .u8 (s.getD j 0).toNat)
    | none => none
  | .arr n esz g, .agg l => match idxLt n y with
    | some j => pureOp.partOf l (j * esz) esz g
    | none => none
  | _, _ => none
def sliceV (i : TI) (x : V) (lo hi : Option V) : Option V := match i.d, x with
  | .str, .str s => match optIdx s.length s.length hi with
    | some h => match optIdx h 0 lo with
      | some l => some (.str ((s.take h).drop l))
      | none => none
    | none => none
  | .slice _ esz _, .sl b off len ver ez lim => match optIdx len len hi with
    | some h => match optIdx h 0 lo with
      | some l => if (lim = true ∧ h < len) ∨ ez ≠ esz then none else some (.sl b (off + l * esz) (h - l) ver esz lim)
      | none => none
    | none => none
  | .slice _ _ _, .nils => match optIdx 0 0 hi with
    | some h => match optIdx h 0 lo with
      | some _ => some .nils
      | none => none
    | none => none
  | _, _ => none
def convV (k' : IntKind) : V → Option V
  | .int _ n => some (.int k' (k'.wrap n))
  | _ => none
def fieldV (i : TI) (x : V) (f : Nat) : Option V := match i.d, x with
  | .struct fs, .agg l => match fs[f]? with
    | some q => pureOp.partOf l q.1 q.2.1 q.2.2
    | none => none
  | _, _ => none
def fieldAddrV (i : TI) (x : V) (f : Nat) : Option V := match i.d, x with
  | .struct fs, .ptr b off ver z => match fs[f]? with
    | some q => some (.ptr b (off + q.1) ver z)
    | none => none
  | _, _ => none
def indexAddrV (i : TI) (x y : V) : Option V := match i.d, x with
  | .slice _ esz _, .sl b off len ver ez _ => match idxLt len y with
    | some j => if ez = esz then some (.ptr b (off + j * esz) ver (off + j * esz + esz)) else none
    | none => none
  | .arr n esz _, .ptr b off ver z => match idxLt n y with
    | some j => if off + n * esz ≤ z then some (.ptr b (off + j * esz) ver (off + j * esz + esz)) else none
    | none => none
  | _, _ => none
def extractV (i : Nat) : V → Option V
  | .tup l => l[i]?
  | _ => none

section
variable {Q : V × H → Prop}
theorem do_index' (ht : ti P s = some i) : Ok (step call P ⟨d, .index s x y, t, p, a, g⟩ ρ h) Q ↔ Ok (indexV i (ρ x) (ρ y)) fun v => Q (v, h) := by
  rw [do_pure rfl]
  simp only [pureOp, ht]
  rfl
theorem do_slice' {lo hi : Option Operand} (ht : ti P s = some i) : Ok (step call P ⟨d, .slice s x lo hi none, t, p, a, g⟩ ρ h) Q ↔ Ok (sliceV i (ρ x) (lo.map ρ) (hi.map ρ)) fun v => Q (v, h) := by
  rw [do_pure rfl]
  simp only [pureOp, ht]
  rfl
theorem do_field' {f : Nat} (ht : ti P s = some i) : Ok (step call P ⟨d, .field s x f, t, p, a, g⟩ ρ h) Q ↔ Ok (fieldV i (ρ x) f) fun v => Q (v, h) := by
  rw [do_pure rfl]
  simp only [pureOp, ht]
  rfl
theorem do_fieldAddr' {f : Nat} (ht : ti P s = some i) : Ok (step call P ⟨d, .fieldAddr s x f, t, p, a, g⟩ ρ h) Q ↔ Ok (fieldAddrV i (ρ x) f) fun v => Q (v, h) := by
  rw [do_pure rfl]
  simp only [pureOp, ht]
  rfl
theorem do_indexAddr' (ht : ti P s = some i) : Ok (step call P ⟨d, .indexAddr s x y, t, p, a, g⟩ ρ h) Q ↔ Ok (indexAddrV i (ρ x) (ρ y)) fun v => Q (v, h) := by
  rw [do_pure rfl]
  simp only [pureOp, ht]
  rfl
theorem do_extract' {j : Nat} {z : Operand} : Ok (step call P ⟨d, .extract z j, t, p, a, g⟩ ρ h) Q ↔ Ok (extractV j (ρ z)) fun v => Q (v, h) := by
  rw [do_pure rfl]
  rfl
theorem do_conv' {k k' : IntKind} (hs : P.underlying s = some (.int k)) (hu : P.underlying u = some (.int k')) :
    Ok (step call P ⟨d, .convert s u x, t, p, a, g⟩ ρ h) Q ↔ Ok (convV k' (ρ x)) fun v => Q (v, h) := by
  rw [do_pure (by simp [kindOf, hs, hu])]
  simp only [pureOp, hs, hu]
  cases ρ x <;> rfl
end

@[simp] theorem index_str {l : List UInt8} {Q : V → Prop} {z : List V} {n m : Nat} {b : Bool} {y : V} :
    Ok (indexV ⟨n, b, m, z, .str⟩ (.str l) y) Q ↔ Ok (idxLt l.length y) fun j => Q (.int .u8 (l.getD j 0).toNat) := by
  simp only [indexV]
  cases idxLt l.length y <;> simp
@[simp] theorem index_arr {l : List V} {Q : V → Prop} {z : List V} {n m k : Nat} {b : Bool} {y : V} :
    Ok (indexV ⟨n, b, m, z, .arr k 1 false⟩ (.agg l) y) Q ↔ Ok (idxLt k y) fun j => j + 1 ≤ l.length ∧ Ok l[j]? Q := by
  simp only [indexV]
  cases idxLt k y <;> simp [pureOp.partOf]
@[simp] theorem slice_str {l : List UInt8} {lo hi : Option V} {Q : V → Prop} {z : List V} {n m : Nat} {b : Bool} :
    Ok (sliceV ⟨n, b, m, z, .str⟩ (.str l) lo hi) Q ↔ Ok (optIdx l.length l.length hi) fun e => Ok (optIdx e 0 lo) fun j => Q (.str ((l.take e).drop j)) := by
  simp only [sliceV]
  cases optIdx l.length l.length hi with
  | none => simp
  | some e =>
    simp only [Ok_some]
    cases optIdx e 0 lo <;> simp
@[simp] theorem slice_sl {o len ver ez : Nat} {lim : Bool} {c : Nat} {lo hi : Option V} {Q : V → Prop} {z : List V} {n m eb : Nat} {b : Bool} {et : TypeId} :
    Ok (sliceV ⟨n, b, m, z, .slice et ez eb⟩ (.sl c o len ver ez lim) lo hi) Q ↔ Ok (optIdx len len hi) fun e => Ok (optIdx e 0 lo) fun j => ¬ (lim = true ∧ e < len) ∧ Q (.sl c (o + j * ez) (e - j) ver ez lim) := by
  simp only [sliceV]
  cases optIdx len len hi with
  | none => simp
  | some e =>
    simp only [Ok_some]
    cases optIdx e 0 lo <;> simp
@[simp] theorem slice_nils {lo hi : Option V} {Q : V → Prop} {z : List V} {n m ez eb : Nat} {b : Bool} {et : TypeId} :
    Ok (sliceV ⟨n, b, m, z, .slice et ez eb⟩ .nils lo hi) Q ↔ Ok (optIdx 0 0 hi) fun e => Ok (optIdx e 0 lo) fun _ => Q .nils := by
  simp only [sliceV]
  cases optIdx 0 0 hi with
  | none => simp
  | some e =>
    simp only [Ok_some]
    cases optIdx e 0 lo <;> simp
@[simp] theorem conv_int {k k' : IntKind} {n : Int} {Q : V → Prop} : Ok (convV k' (.int k n)) Q ↔ Q (.int k' (k'.wrap n)) := by simp [convV]
@[simp] theorem extract_tup {l : List V} {j : Nat} {Q : V → Prop} : Ok (extractV j (.tup l)) Q ↔ Ok l[j]? Q := Iff.rfl
@[simp] theorem indexAddr_sl {o len ver ez : Nat} {lim : Bool} {c : Nat} {y : V} {Q : V → Prop} {z : List V} {n m eb : Nat} {b : Bool} {et : TypeId} :
    Ok (indexAddrV ⟨n, b, m, z, .slice et ez eb⟩ (.sl c o len ver ez lim) y) Q ↔ Ok (idxLt len y) fun j => Q (.ptr c (o + j * ez) ver (o + j * ez + ez)) := by
  simp only [indexAddrV]
  cases idxLt len y <;> simp
@[simp] theorem indexAddr_arr {o ver ez w : Nat} {c : Nat} {y : V} {Q : V → Prop} {z : List V} {n m len : Nat} {b f : Bool} :
    Ok (indexAddrV ⟨n, b, m, z, .arr len ez f⟩ (.ptr c o ver w) y) Q ↔ Ok (idxLt len y) fun j => o + len * ez ≤ w ∧ Q (.ptr c (o + j * ez) ver (o + j * ez + ez)) := by
  simp only [indexAddrV]
  cases idxLt len y <;> simp
@[simp] theorem fieldAddr_ptr {o ver w : Nat} {c : Nat} {f : Nat} {Q : V → Prop} {z : List V} {n m : Nat} {b : Bool} {fs : List (Nat × Nat × Bool)} :
    Ok (fieldAddrV ⟨n, b, m, z, .struct fs⟩ (.ptr c o ver w) f) Q ↔ Ok fs[f]? fun q => Q (.ptr c (o + q.1) ver w) := by
  simp only [fieldAddrV]
  cases fs[f]? <;> simp
@[simp] theorem field_agg {l : List V} {f : Nat} {Q : V → Prop} {z : List V} {n m : Nat} {b : Bool} {fs : List (Nat × Nat × Bool)} :
    Ok (fieldV ⟨n, b, m, z, .struct fs⟩ (.agg l) f) Q ↔ Ok fs[f]? fun q => Ok (pureOp.partOf l q.1 q.2.1 q.2.2) Q := by
  simp only [fieldV]
  cases fs[f]? <;> simp

/-- A region whose order is open, where nothing reads beside what acts. -/
theorem lex_plain {ops : List Oper} : ∀ (l : List Oper) (n : Nat) (sk : List Bool) (e : Env) (h : H), l.length ≤ n → (∀ o ∈ l, o.guard = none) →
    (lexRun call P ops l sk e h).map (·.2) = runOps call P ops n none l e h
  | [], n, sk, e, h, _, _ => by cases n <;> simp [lexRun, runOps]
  | o :: l, 0, _, _, _, hn, _ => by simp at hn
  | o :: l, n + 1, sk, e, h, hn, hg => by
    have hg0 : o.guard = none := hg o (by simp)
    simp only [lexRun, runOps, skipOf, hg0, if_true, Option.bind_some, cond_false]
    cases hs : step call P o (ev e) h with
    | none => simp
    | some r =>
      simp only [Option.bind_some]
      rw [← lex_plain l n (sk ++ [false]) _ _ (by simpa using hn) fun o ho => hg o (by simp [ho])]
      cases lexRun call P ops l (sk ++ [false]) (put e o.dst r.1) r.2 <;> simp
theorem W_any {id : Nat} {ops : Array Oper} {e : Env} {Q : Ex → Env → H → Prop} (hf : floats P ops.toList (waits ops.toList []) = []) (hg : ops.toList.all (fun o => o.guard.isNone) = true) :
    W P (.region id ops true) e h Q ↔ Ok (runOps (Does P) P ops.toList ops.size none ops.toList e h) fun r => Q .normal r.1 r.2 := by
  unfold W
  rw [Exec_any, Ok_map, hf]
  have e1 : runAny (Does P) P ops.toList [] e h = runOps (Does P) P ops.toList ops.size none ops.toList e h := by
    rw [← lex_plain (ops := ops.toList) ops.toList ops.size [] e h (by simp) fun o ho => by
      have := List.all_eq_true.1 hg o ho
      simpa using this]
    unfold runAny
    cases lexRun (Does P) P ops.toList ops.toList [] e h <;> simp
  rw [e1]
end

theorem W_anyL {P : Program} {id : Nat} {l : List Oper} {e : Env} {h : H} {Q : Ex → Env → H → Prop} (hf : floats P l (waits l []) = []) (hg : l.all (fun o => o.guard.isNone) = true) :
    W P (.region id (List.toArray l) true) e h Q ↔ Ok (runOps (Does P) P l l.length none l e h) fun r => Q .normal r.1 r.2 := by
  rw [W_any (ops := List.toArray l) hf hg]
  simp only [List.size_toArray]
/-! ### Whole numbers -/
theorem wrap_u32 {n : Nat} (h : n < 4294967296) : IntKind.u32.wrap (n : Int) = n := by simp [IntKind.wrap, IntKind.bits, IntKind.signed]; omega
theorem wrap_u8 {n : Nat} : IntKind.u8.wrap (n : Int) = ((n % 256 : Nat) : Int) := by simp [IntKind.wrap, IntKind.bits, IntKind.signed]
theorem wrap_u16 {n : Nat} : IntKind.u16.wrap (n : Int) = ((n % 65536 : Nat) : Int) := by simp [IntKind.wrap, IntKind.bits, IntKind.signed]
theorem wrap_i64 {n : Int} (h0 : -9223372036854775808 ≤ n) (h1 : n < 9223372036854775808) : IntKind.i64.wrap n = n := by
  simp only [IntKind.wrap, IntKind.bits, IntKind.signed]
  simp
  split <;> omega
theorem xor_u32 {m n : Nat} (hm : m < 4294967296) (hn : n < 4294967296) : bitsOp .xor .u32 (m : Int) (n : Int) = some ((m ^^^ n : Nat) : Int) := by
  have h : m ^^^ n < 2 ^ 32 := Nat.xor_lt_two_pow hm hn
  show some (IntKind.wrap .u32 ((BitVec.ofInt 32 (m : Int) ^^^ BitVec.ofInt 32 (n : Int)).toNat : Int)) = _
  simp only [BitVec.ofInt_natCast, BitVec.toNat_xor, BitVec.toNat_ofNat]
  rw [Nat.mod_eq_of_lt hm, Nat.mod_eq_of_lt hn, wrap_u32 h]
theorem xor_u8 {m n : Nat} (hm : m < 256) (hn : n < 256) : bitsOp .xor .u8 (m : Int) (n : Int) = some ((m ^^^ n : Nat) : Int) := by
  have h : m ^^^ n < 2 ^ 8 := Nat.xor_lt_two_pow hm hn
  show some (IntKind.wrap .u8 ((BitVec.ofInt 8 (m : Int) ^^^ BitVec.ofInt 8 (n : Int)).toNat : Int)) = _
  simp only [BitVec.ofInt_natCast, BitVec.toNat_xor, BitVec.toNat_ofNat]
  rw [Nat.mod_eq_of_lt hm, Nat.mod_eq_of_lt hn, wrap_u8, Nat.mod_eq_of_lt h]
end Go.Hl
