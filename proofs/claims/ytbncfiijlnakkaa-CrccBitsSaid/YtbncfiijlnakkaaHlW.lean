import Derived.Test.YtbncfiijlnakkaaHlLim
/-! Hl: what holds behind code. -/
namespace Go.Hl

/-- It gives something of which Q holds. -/
def Ok {α : Type} (o : Option α) (Q : α → Prop) : Prop := ∃ a, o = some a ∧ Q a

theorem Ok_some {α : Type} {a : α} {Q : α → Prop} : Ok (some a) Q ↔ Q a := by simp [Ok]
theorem Ok_none {α : Type} {Q : α → Prop} : Ok (none : Option α) Q ↔ False := by simp [Ok]
theorem Ok_bind {α β : Type} {o : Option α} {f : α → Option β} {Q : β → Prop} : Ok (o.bind f) Q ↔ Ok o fun a => Ok (f a) Q := by
  cases o <;> simp [Ok]
theorem Ok_map {α β : Type} {o : Option α} {f : α → β} {Q : β → Prop} : Ok (o.map f) Q ↔ Ok o fun a => Q (f a) := by
  cases o <;> simp [Ok]
theorem Ok_if {α : Type} {p : Prop} [Decidable p] {a b : Option α} {Q : α → Prop} : Ok (if p then a else b) Q ↔ if p then Ok a Q else Ok b Q := by
  split <;> rfl
theorem Ok_if_none {α : Type} {p : Prop} [Decidable p] {a : Option α} {Q : α → Prop} : Ok (if p then a else none) Q ↔ p ∧ Ok a Q := by
  split <;> simp_all [Ok]
theorem Ok_none_if {α : Type} {p : Prop} [Decidable p] {a : Option α} {Q : α → Prop} : Ok (if p then none else a) Q ↔ ¬ p ∧ Ok a Q := by
  split <;> simp_all [Ok]
theorem Ok.mono {α : Type} {o : Option α} {Q R : α → Prop} (h : Ok o Q) (hq : ∀ a, Q a → R a) : Ok o R := by
  obtain ⟨a, h1, h2⟩ := h
  exact ⟨a, h1, hq a h2⟩

/-- Code, and what holds behind it. -/
def W (P : Program) (c : Code) (e : Env) (h : H) (Q : Ex → Env → H → Prop) : Prop := Ok (Exec P c e h) fun r => Q r.1 r.2.1 r.2.2

section
variable {P : Program}

theorem W.mono {c : Code} {e : Env} {h : H} {Q R : Ex → Env → H → Prop} (hw : W P c e h Q) (hq : ∀ x e' h', Q x e' h' → R x e' h') : W P c e h R := Ok.mono hw fun a ha => hq _ _ _ ha

theorem W_skip {e : Env} {h : H} {Q : Ex → Env → H → Prop} : W P .skip e h Q ↔ Q .normal e h := by simp [W, Exec_skip, Ok_some]
theorem W_ret {e : Env} {h : H} {Q : Ex → Env → H → Prop} : W P .ret e h Q ↔ Q .ret e h := by simp [W, Exec_ret, Ok_some]
theorem W_exit {id : Nat} {e : Env} {h : H} {Q : Ex → Env → H → Prop} : W P (.exit id) e h Q ↔ Q (.exit id) e h := by simp [W, Exec_exit, Ok_some]

/-- Code behind code. -/
def andThen (b : Env → H → Prop) (Q : Ex → Env → H → Prop) : Ex → Env → H → Prop
  | .normal, e, h => b e h
  | x, e, h => Q x e h
def blockEnd (id : Nat) (Q : Ex → Env → H → Prop) : Ex → Env → H → Prop
  | .exit j, e, h => if j = id then Q .normal e h else Q (.exit j) e h
  | x, e, h => Q x e h
theorem andThen_normal {b : Env → H → Prop} {Q : Ex → Env → H → Prop} {e : Env} {h : H} : andThen b Q .normal e h ↔ b e h := Iff.rfl
theorem andThen_ret {b : Env → H → Prop} {Q : Ex → Env → H → Prop} {e : Env} {h : H} : andThen b Q .ret e h ↔ Q .ret e h := Iff.rfl
theorem andThen_exit {b : Env → H → Prop} {Q : Ex → Env → H → Prop} {e : Env} {h : H} {j : Nat} : andThen b Q (.exit j) e h ↔ Q (.exit j) e h := Iff.rfl
theorem blockEnd_normal {id : Nat} {Q : Ex → Env → H → Prop} {e : Env} {h : H} : blockEnd id Q .normal e h ↔ Q .normal e h := Iff.rfl
theorem blockEnd_ret {id : Nat} {Q : Ex → Env → H → Prop} {e : Env} {h : H} : blockEnd id Q .ret e h ↔ Q .ret e h := Iff.rfl
theorem blockEnd_exit {id j : Nat} {Q : Ex → Env → H → Prop} {e : Env} {h : H} : blockEnd id Q (.exit j) e h ↔ if j = id then Q .normal e h else Q (.exit j) e h := Iff.rfl

theorem W_seq {a b : Code} {e : Env} {h : H} {Q : Ex → Env → H → Prop} : W P (.seq a b) e h Q ↔ W P a e h (andThen (fun e' h' => W P b e' h' Q) Q) := by
  unfold W
  rw [Exec_seq]
  cases Exec P a e h with
  | none => simp [Ok_none]
  | some r =>
    obtain ⟨x, e1, h1⟩ := r
    cases x <;> simp [Ok_some, andThen]
theorem W_block {id : Nat} {b : Code} {e : Env} {h : H} {Q : Ex → Env → H → Prop} : W P (.block id b) e h Q ↔ W P b e h (blockEnd id Q) := by
  unfold W
  rw [Exec_block]
  cases Exec P b e h with
  | none => simp [Ok_none]
  | some r =>
    obtain ⟨x, e1, h1⟩ := r
    cases x
    · simp [Ok_some, blockEnd]
    · simp only [Ok_some, blockEnd]
      split <;> simp [Ok_some]
    · simp [Ok_some, blockEnd]
def condW (P : Program) (a b : Code) (e : Env) (h : H) (Q : Ex → Env → H → Prop) : V → Prop
  | .bool t => cond t (W P a e h Q) (W P b e h Q)
  | _ => False
theorem W_cond {c : Operand} {a b : Code} {e : Env} {h : H} {Q : Ex → Env → H → Prop} : W P (.cond c a b) e h Q ↔ condW P a b e h Q (ev e c) := by
  unfold W condW
  rw [Exec_cond]
  cases ev e c <;> simp [Ok_none]
  rename_i t
  cases t <;> rfl
theorem condW_dec {a b : Code} {e : Env} {h : H} {Q : Ex → Env → H → Prop} {p : Prop} [Decidable p] : condW P a b e h Q (.bool (decide p)) ↔ if p then W P a e h Q else W P b e h Q := by
  unfold condW
  by_cases hp : p <;> simp [hp]
theorem condW_bool {a b : Code} {e : Env} {h : H} {Q : Ex → Env → H → Prop} {t : Bool} : condW P a b e h Q (.bool t) ↔ if t = true then W P a e h Q else W P b e h Q := by
  unfold condW
  cases t <;> simp

theorem W_region {id : Nat} {ops : Array Oper} {e : Env} {h : H} {Q : Ex → Env → H → Prop} : W P (.region id ops false) e h Q ↔ Ok (runOps (Does P) P ops.toList ops.size none ops.toList e h) fun r => Q .normal r.1 r.2 := by
  unfold W
  rw [Exec_region, Ok_map]

/-- A loop: while I holds with n, a round leaves it with less, or ends. -/
theorem W_loop {b : Code} {Q : Ex → Env → H → Prop} (I : Nat → Env → H → Prop)
    (hb : ∀ n e h, I n e h → W P b e h (andThen (fun e' h' => ∃ m, m < n ∧ I m e' h') Q)) : ∀ n e h, I n e h → W P (.loop b) e h Q := by
  intro n
  induction n using Nat.strongRecOn with
  | _ n ih =>
    intro e h hi
    have hw := hb n e h hi
    unfold W at hw ⊢
    rw [Exec_loop]
    obtain ⟨r, h1, h2⟩ := hw
    rw [h1]
    obtain ⟨x, e1, h1'⟩ := r
    cases x with
    | normal =>
      obtain ⟨m, hm, hi'⟩ := h2
      exact ih m hm e1 h1' hi'
    | exit j => exact Ok_some.2 h2
    | ret => exact Ok_some.2 h2

/-- What a function hands back. -/
def handed (P : Program) (rs : List ResultVar) (h : H) (R : V × H → Prop) : Ex → Env → H → Prop
  | .exit _, _, _ => False
  | _, e, h' => Ok (resultsOf P e h' rs) fun vs => R (tupOf vs, leave h h' (tupOf vs))
theorem handed_ret {rs : List ResultVar} {h h' : H} {e : Env} {R : V × H → Prop} : handed P rs h R .ret e h' ↔ Ok (resultsOf P e h' rs) fun vs => R (tupOf vs, leave h h' (tupOf vs)) := Iff.rfl
theorem handed_normal {rs : List ResultVar} {h h' : H} {e : Env} {R : V × H → Prop} : handed P rs h R .normal e h' ↔ Ok (resultsOf P e h' rs) fun vs => R (tupOf vs, leave h h' (tupOf vs)) := Iff.rfl

theorem get_enter {fn : Func} {args : List V} {t : Nat} : (enter fn args).getD t .undef = args.getD t .undef := by
  unfold enter
  rw [List.getD_eq_getElem?_getD, List.getD_eq_getElem?_getD]
  by_cases ht : t < args.length
  · rw [List.getElem?_append_left ht]
  · rw [List.getElem?_append_right (by omega), List.getElem?_eq_none (by omega : args.length ≤ t), List.getElem?_replicate]
    split <;> rfl
theorem len_enter {fn : Func} {args : List V} (h : args.length ≤ fn.ntmps) : (enter fn args).length = fn.ntmps := by
  simp [enter]
  omega
def get (e : Env) (t : Nat) : V := e.getD t .undef

/-- All temporaries, as a function. -/
def mk (n : Nat) (σ : Nat → V) : Env := (List.range n).map σ
def upd (σ : Nat → V) (t : Nat) (v : V) : Nat → V := fun i => if i = t then v else σ i
theorem upd_same {σ : Nat → V} {t : Nat} {v : V} : upd σ t v t = v := by simp [upd]
theorem upd_ne {σ : Nat → V} {d t : Nat} {v : V} (h : (d == t) = false) : upd σ d v t = σ t := by
  simp only [beq_eq_false_iff_ne] at h
  simp [upd, Ne.symm h]
theorem get_mk {n t : Nat} {σ : Nat → V} (h : t < n) : get (mk n σ) t = σ t := by
  simp [get, mk, List.getD_eq_getElem?_getD, h]
theorem set_mk {n t : Nat} {σ : Nat → V} {v : V} : (mk n σ).set t v = mk n (upd σ t v) := by
  apply List.ext_getElem?
  intro i
  simp only [mk, List.getElem?_set, List.length_map, List.length_range, List.getElem?_map]
  by_cases ht : t = i
  · subst ht
    by_cases hn : t < n
    · simp [hn, upd]
    · simp [hn]
  · by_cases hn : i < n
    · simp [ht, hn, upd, Ne.symm ht]
    · simp [ht, hn]
theorem mk_get {e : Env} {n : Nat} (h : e.length = n) : mk n (get e) = e := by
  apply List.ext_getElem?
  intro i
  simp only [mk, List.getElem?_map]
  by_cases hn : i < n
  · have : i < e.length := by omega
    simp [hn, get, List.getD_eq_getElem?_getD, this]
  · rw [List.getElem?_eq_none (by omega : e.length ≤ i)]
    simp [hn]

theorem of_len {e : Env} {n : Nat} (h : e.length = n) : ∃ σ, e = mk n σ := ⟨get e, (mk_get h).symm⟩
theorem len_mk {n : Nat} {σ : Nat → V} : (mk n σ).length = n := by simp [mk]
/-- A call by its code. -/
theorem Does_wp {f : FuncId} {fn : Func} {c : Code} {args : List V} {h : H} {R : V × H → Prop} {n : Nat} {rs : List ResultVar} (hf : P.funcs[f]? = some fn) (hok : fnOk P fn = true) (hb : fn.body = some c)
    (hn : fn.ntmps = n) (hrs : fn.results.toList = rs) (ha : args.length ≤ n)
    (hr : ∀ σ : Nat → V, (∀ t, σ t = get args t) → W P c (mk n σ) { blks := h.blks, esc := [] } (handed P rs h R)) : Ok (Does P f args h) R := by
  subst hn hrs
  have hw := hr (get (enter fn args)) (fun _ => get_enter)
  rw [mk_get (len_enter ha)] at hw
  obtain ⟨r, h1, h2⟩ := hw
  obtain ⟨x, e1, h1'⟩ := r
  cases x with
  | exit j => exact h2.elim
  | normal | ret =>
    obtain ⟨vs, h3, h4⟩ := h2
    refine ⟨_, Does_of hf hok hb ?_, h4⟩
    rw [h1]
    simp [finish, h3]
theorem Does_eq {f : FuncId} {fn : Func} {c : Code} {args : List V} {h : H} {r : V × H} {n : Nat} {rs : List ResultVar} (hf : P.funcs[f]? = some fn) (hok : fnOk P fn = true) (hb : fn.body = some c)
    (hn : fn.ntmps = n) (hrs : fn.results.toList = rs) (ha : args.length ≤ n)
    (hr : ∀ σ : Nat → V, (∀ t, σ t = get args t) → W P c (mk n σ) { blks := h.blks, esc := [] } (handed P rs h (fun x => x = r))) : Does P f args h = some r := by
  obtain ⟨x, h1, h2⟩ := Does_wp hf hok hb hn hrs ha hr
  rw [h1, h2]

/-! ### Operations, one by one -/
theorem run_nil {call : CallT} {ops : List Oper} {n : Nat} {ctx : Option (Nat × Bool)} {e : Env} {h : H} {Q : Env × H → Prop} : Ok (runOps call P ops n ctx [] e h) Q ↔ Q (e, h) := by
  cases n <;> simp [runOps, Ok_some]
theorem run_cons {call : CallT} {ops : List Oper} {n : Nat} {ctx : Option (Nat × Bool)} {rest : List Oper} {e : Env} {h : H} {dst : Option Tmp} {op : Op} {type : TypeId} {pos : String} {after : Array Edge} {Q : Env × H → Prop} :
    Ok (runOps call P ops (n + 1) ctx (⟨dst, op, type, pos, after, ctx⟩ :: rest) e h) Q ↔ Ok (step call P ⟨dst, op, type, pos, after, ctx⟩ (ev e) h) fun r => Ok (runOps call P ops n ctx rest (put e dst r.1) r.2) Q := by
  simp [runOps, Ok_bind]

section
variable {call : CallT} {d : Option Tmp} {t : TypeId} {p : String} {a : Array Edge} {g : Option (Nat × Bool)} {ρ : Operand → V} {h : H} {Q : V × H → Prop}
theorem do_move {x : Operand} : Ok (step call P ⟨d, .move x, t, p, a, g⟩ ρ h) Q ↔ Q (ρ x, h) := by simp [step, kindOf, pureOp, Ok_some]
theorem do_assign {x : Operand} : Ok (step call P ⟨d, .assign x, t, p, a, g⟩ ρ h) Q ↔ Q (ρ x, h) := by simp [step, kindOf, pureOp, Ok_some]
theorem do_bin {o : BinOp} {s u : TypeId} {x y : Operand} : Ok (step call P ⟨d, .binOp o s x y u, t, p, a, g⟩ ρ h) Q ↔ Ok (binV P o s (ρ x) (ρ y)) fun v => Q (v, h) := by simp [step, kindOf, pureOp, Ok_map]
theorem do_un {o : UnOp} {s : TypeId} {x : Operand} : Ok (step call P ⟨d, .unOp o s x, t, p, a, g⟩ ρ h) Q ↔ Ok (unV o (ρ x)) fun v => Q (v, h) := by simp [step, kindOf, pureOp, Ok_map]
theorem do_len {x : Operand} {s : TypeId} : Ok (step call P ⟨d, .call { callee := .builtin .len, args := #[x], argTypes := #[s] }, t, p, a, g⟩ ρ h) Q ↔ Ok (lenOp P s (ρ x)) fun v => Q (v, h) := by
  simp [step, kindOf, pureOp, callPure, Ok_map]
theorem do_min {x y : Operand} {s : Array TypeId} : Ok (step call P ⟨d, .call { callee := .builtin .min, args := #[x, y], argTypes := s }, t, p, a, g⟩ ρ h) Q ↔ Ok (minV (ρ x) (ρ y)) fun v => Q (v, h) := by
  simp [step, kindOf, pureOp, callPure, Ok_map]
theorem do_max {x y : Operand} {s : Array TypeId} : Ok (step call P ⟨d, .call { callee := .builtin .max, args := #[x, y], argTypes := s }, t, p, a, g⟩ ρ h) Q ↔ Ok (maxV (ρ x) (ρ y)) fun v => Q (v, h) := by
  simp [step, kindOf, pureOp, callPure, Ok_map]
theorem do_call {f : Operand} {args : Array Operand} {s : Array TypeId} {i : FuncId} (hf : ρ f = .fn (.func i) [] []) : Ok (step call P ⟨d, .call { callee := .value f, args := args, argTypes := s }, t, p, a, g⟩ ρ h) Q ↔ Ok (call i (args.toList.map ρ) h) Q := by
  simp [step, kindOf, callOp, hf]
theorem do_pure {op : Op} (hk : kindOf P op = .pure) : Ok (step call P ⟨d, op, t, p, a, g⟩ ρ h) Q ↔ Ok (pureOp P ⟨d, op, t, p, a, g⟩ ρ) fun v => Q (v, h) := by simp [step, hk, Ok_map]
theorem do_read {op : Op} (hk : kindOf P op = .read) : Ok (step call P ⟨d, op, t, p, a, g⟩ ρ h) Q ↔ Ok (readOp P op ρ h) fun v => Q (v, h) := by simp [step, hk, Ok_map]
theorem do_act {op : Op} (hk : kindOf P op = .act) : Ok (step call P ⟨d, op, t, p, a, g⟩ ρ h) Q ↔ Ok (actOp P op ρ h) Q := by simp [step, hk]
end

theorem bin_int {o : BinOp} {t : TypeId} {k : IntKind} {x y : Int} (h1 : (o != .shl) = true) (h2 : (o != .shr) = true) : binV P o t (.int k x) (.int k y) = intOp o k x y := by
  cases o <;> simp_all [binV]
theorem bin_shl {t : TypeId} {k k' : IntKind} {x y : Int} : binV P .shl t (.int k x) (.int k' y) = shiftOp .shl k x y := rfl
theorem bin_shr {t : TypeId} {k k' : IntKind} {x y : Int} : binV P .shr t (.int k x) (.int k' y) = shiftOp .shr k x y := rfl
theorem bin_str {o : BinOp} {t : TypeId} {x y : List UInt8} : binV P o t (.str x) (.str y) = strOp o x y := rfl
theorem min_int {k : IntKind} {x y : Int} : minV (.int k x) (.int k y) = some (.int k (if y < x then y else x)) := by simp [minV]
theorem max_int {k : IntKind} {x y : Int} : maxV (.int k x) (.int k y) = some (.int k (if y > x then y else x)) := by simp [maxV]

/-! ### Temporaries -/
theorem ev_tmp {e : Env} {t : Nat} : ev e (.tmp t) = get e t := rfl
theorem ev_const {e : Env} {v : Value} : ev e (.const v) = ofVal v := rfl
theorem ev_func {e : Env} {f : FuncId} : ev e (.func f) = .fn (.func f) [] [] := rfl
theorem put_some {e : Env} {t : Nat} {v : V} : put e (some t) v = e.set t v := rfl
theorem put_none {e : Env} {v : V} : put e none v = e := rfl
theorem get_set_ne {e : Env} {d t : Nat} {v : V} (h : (d == t) = false) : get (e.set d v) t = get e t := by
  simp only [beq_eq_false_iff_ne] at h
  simp [get, List.getD_eq_getElem?_getD, List.getElem?_set_ne h]
theorem get_set_same {e : Env} {t : Nat} {v : V} (h : t < e.length) : get (e.set t v) t = v := by
  simp [get, List.getD_eq_getElem?_getD, h]
theorem getD_get {e : Env} {t : Nat} : e.getD t .undef = get e t := rfl

theorem get_zero {v : V} {l : List V} : get (v :: l) 0 = v := rfl
theorem get_succ {v : V} {l : List V} {n : Nat} : get (v :: l) (n + 1) = get l n := rfl
theorem get_nil {n : Nat} : get [] n = .undef := rfl
theorem len_str {t : TypeId} {s : List UInt8} (h : P.underlying t = some .string) : lenOp P t (.str s) = some (.int .i64 s.length) := by simp [lenOp, h]
theorem len_sl {t e : TypeId} {b o n v z : Nat} {m : Bool} (h : P.underlying t = some (.slice e)) : lenOp P t (.sl b o n v z m) = some (.int .i64 n) := by simp [lenOp, h]
theorem len_nils {t e : TypeId} (h : P.underlying t = some (.slice e)) : lenOp P t .nils = some (.int .i64 0) := by simp [lenOp, h]
theorem results_nil {e : Env} {h : H} : resultsOf P e h [] = some [] := rfl
theorem results_tmp {e : Env} {h : H} {t : Nat} {l : List ResultVar} {Q : List V → Prop} : Ok (resultsOf P e h (.tmp t :: l)) Q ↔ Ok (resultsOf P e h l) fun vs => Q (get e t :: vs) := by
  simp only [resultsOf, resultOf, Ok_map]
  rfl
theorem results_cell {e : Env} {h : H} {x t : Nat} {l : List ResultVar} {Q : List V → Prop} : Ok (resultsOf P e h (.cell x t :: l)) Q ↔ Ok (readVar P t (get e x) h) fun v => Ok (resultsOf P e h l) fun vs => Q (v :: vs) := by
  simp only [resultsOf, resultOf]
  show Ok (match readVar P t (get e x) h with
    | some v => (resultsOf P e h l).map fun vs => v :: vs
    | none => none) Q ↔ _
  cases readVar P t (get e x) h <;> simp [Ok_some, Ok_none, Ok_map]
theorem tupOf_one {v : V} : tupOf [v] = v := rfl
theorem leave_same {h : H} {v : V} : leave h { blks := h.blks, esc := [] } v = h := by
  unfold leave
  simp [H.size]
end

end Go.Hl
