import Derived.Test.YtbncfiijlnakkaaHlSimp2
/-! Hl: memory, as a walk sees it; what stands under a guard. -/
namespace Go.Hl

theorem Ok.of {α : Type} {o : Option α} {Q : α → Prop} {a : α} (h : o = some a) (hq : Q a) : Ok o Q := ⟨a, h, hq⟩

@[simp] theorem new_mk {l : List Blk} {es : List (Nat × Nat)} {cs : List V} : H.new ⟨l, es⟩ cs = ⟨l ++ [⟨cs, 0, 0, false⟩], es⟩ := rfl
@[simp] theorem size_mk {l : List Blk} {es : List (Nat × Nat)} : H.size ⟨l, es⟩ = l.length := rfl
@[simp] theorem ok_read {l : List Blk} {es : List (Nat × Nat)} {b off ver n : Nat} {Q : List V → Prop} :
    Ok (H.read ⟨l, es⟩ b off ver n) Q ↔ Ok l[b]? fun k => (k.valid ≤ ver ∧ ver ≤ k.gen) ∧ Q ((k.cells.drop off).take n) := by
  simp only [H.read]
  cases l[b]? <;> simp
@[simp] theorem ok_write {l : List Blk} {es : List (Nat × Nat)} {b off ver : Nat} {vs : List V} {Q : H → Prop} :
    Ok (H.write ⟨l, es⟩ b off ver vs) Q ↔ Ok l[b]? fun k => (k.ro = false ∧ ver = k.gen ∧ off + vs.length ≤ k.cells.length ∧ vs.all V.cellOk = true) ∧
      Q ⟨l.set b ⟨splice k.cells off vs, k.gen, k.gen, k.ro⟩, es ++ escs b vs⟩ := by
  simp only [H.write]
  cases l[b]? <;> simp
@[simp] theorem ok_grow {l : List Blk} {es : List (Nat × Nat)} {b ver : Nat} {vs : List V} {Q : H → Prop} :
    Ok (H.grow ⟨l, es⟩ b ver vs) Q ↔ Ok l[b]? fun k => (k.ro = false ∧ ver = k.gen ∧ vs.all V.cellOk = true) ∧
      Q ⟨l.set b ⟨k.cells ++ vs, k.gen + 1, k.valid, k.ro⟩, es ++ escs b vs⟩ := by
  simp only [H.grow]
  cases l[b]? <;> simp
@[simp] theorem at_zero {l m : List Blk} : (l ++ m)[l.length]? = m[0]? := by
  rw [List.getElem?_append_right (Nat.le_refl _), Nat.sub_self]
@[simp] theorem at_add {l m : List Blk} {i : Nat} : (l ++ m)[l.length + i]? = m[i]? := by
  rw [List.getElem?_append_right (by omega)]
  congr 1
  omega
theorem at_old {l m : List Blk} {b : Nat} {k : Blk} (h : l[b]? = some k) : (l ++ m)[b]? = some k := by
  rw [List.getElem?_append_left (List.getElem?_eq_some_iff.1 h).1, h]
@[simp] theorem set_zero {l m : List Blk} {k : Blk} : (l ++ m).set l.length k = l ++ m.set 0 k := by
  rw [List.set_append_right _ _ (Nat.le_refl _), Nat.sub_self]
@[simp] theorem set_add {l m : List Blk} {k : Blk} {i : Nat} : (l ++ m).set (l.length + i) k = l ++ m.set i k := by
  rw [List.set_append_right _ _ (by omega)]
  congr 2
  omega

theorem leave_new {h : H} {m : List Blk} {es : List (Nat × Nat)} {v : V} (hv : V.under h.size v = true) (hes : es.all (fun x => decide (h.size ≤ x.1)) = true) : leave h ⟨h.blks ++ m, es⟩ v = h := by
  unfold leave
  have h1 : es.all (fun x => decide (h.size ≤ x.1) || decide (x.2 < h.size)) = true := by
    rw [List.all_eq_true] at hes ⊢
    intro x hx
    simp [hes x hx]
  have h2 : es.filter (fun x => decide (x.1 < h.size)) = [] := by
    rw [List.filter_eq_nil_iff]
    intro x hx
    have := List.all_eq_true.1 hes x hx
    simp at this ⊢
    omega
  rw [if_pos (by simp only [Bool.and_eq_true]; exact ⟨hv, h1⟩)]
  simp only [h2, List.append_nil]
  rw [show h.size = h.blks.length from rfl, List.take_left]
theorem leave_keep {h : H} {m : List Blk} {es : List (Nat × Nat)} {v : V} (hv : V.under h.size v = false) : leave h ⟨m, es⟩ v = ⟨m, h.esc ++ es⟩ := by
  unfold leave
  rw [if_neg (by simp [hv])]

section
variable {P : Program} {call : CallT} {d : Option Tmp} {t s u : TypeId} {p : String} {a : Array Edge} {g : Option (Nat × Bool)} {ρ : Operand → V} {h : H} {x y : Operand} {i : TI} {Q : V × H → Prop}

def readV (i : TI) (a : V) (h : H) : Option V := match a with
  | .ptr b off ver z => match h.read b off ver i.sz with
    | some l => if off + i.sz ≤ z then cond i.agg (some (.agg l)) l.head? else none
    | none => none
  | _ => none
theorem do_load' (ht : ti P s = some i) : Ok (step call P ⟨d, .load s x, t, p, a, g⟩ ρ h) Q ↔ Ok (readV i (ρ x) h) fun v => Q (v, h) := by
  rw [do_read rfl]
  simp only [readOp, readVar, ht]
  rfl
theorem ok_readVar {v : V} {Q : V → Prop} (ht : ti P s = some i) : Ok (readVar P s v h) Q ↔ Ok (readV i v h) Q := by
  simp only [readVar, ht]
  rfl
@[simp] theorem readV_one {b off ver z n : Nat} {zs : List V} {ty : Ty} {Q : V → Prop} : Ok (readV ⟨1, false, n, zs, ty⟩ (.ptr b off ver z) h) Q ↔ Ok (h.read b off ver 1) fun l => off + 1 ≤ z ∧ Ok l.head? Q := by
  simp only [readV]
  cases h.read b off ver 1 <;> simp
@[simp] theorem readV_agg {b off ver z n m : Nat} {zs : List V} {ty : Ty} {Q : V → Prop} : Ok (readV ⟨m, true, n, zs, ty⟩ (.ptr b off ver z) h) Q ↔ Ok (h.read b off ver m) fun l => off + m ≤ z ∧ Q (.agg l) := by
  simp only [readV]
  cases h.read b off ver m <;> simp

theorem do_alloc' (ht : ti P s = some i) : Ok (step call P ⟨d, .alloc s, t, p, a, g⟩ ρ h) Q ↔ i.zero.all V.cellOk = true ∧ Q (.ptr h.size 0 0 i.zero.length, h.new i.zero) := by
  rw [do_act rfl]
  simp only [actOp, ht, Ok_if_none, Ok_some]
theorem do_box' : Ok (step call P ⟨d, .box s x, t, p, a, g⟩ ρ h) Q ↔ (ρ x).cells.all V.cellOk = true ∧ Q (.ptr h.size 0 0 (ρ x).cells.length, h.new (ρ x).cells) := by
  rw [do_act rfl]
  simp only [actOp, Ok_if_none, Ok_some]
def storeV (sz : Nat) (h : H) (v : V) : V → Option H
  | .ptr b off ver z => if v.cells.length = sz ∧ off + sz ≤ z then h.write b off ver v.cells else none
  | _ => none
theorem do_store' (ht : ti P s = some i) : Ok (step call P ⟨d, .store s x y, t, p, a, g⟩ ρ h) Q ↔ Ok (storeV i.sz h (ρ y) (ρ x)) fun h' => Q (.undef, h') := by
  rw [do_act rfl]
  simp only [actOp, ht]
  cases ρ x <;> simp [storeV]
@[simp] theorem storeV_ptr {sz b off ver z : Nat} {v : V} {Q : H → Prop} : Ok (storeV sz h v (.ptr b off ver z)) Q ↔ (v.cells.length = sz ∧ off + sz ≤ z) ∧ Ok (h.write b off ver v.cells) Q := by
  simp only [storeV, Ok_if_none]

/-! ### Guards -/
def pickAt (c : Tmp) : List Oper → Option (List Oper × Option Tmp × Operand × Operand × List Oper)
  | [] => none
  | o :: l => match o.op with
    | .pick (.tmp d) x y => if d = c then some ([], o.dst, x, y, l) else (pickAt c l).map fun r => (o :: r.1, r.2)
    | _ => (pickAt c l).map fun r => (o :: r.1, r.2)
def boolOf : V → Option Bool
  | .bool b => some b
  | _ => none
@[simp] theorem boolOf_bool {b : Bool} {Q : Bool → Prop} : Ok (boolOf (.bool b)) Q ↔ Q b := by simp [boolOf]

theorem pickAt_ok (c : Tmp) : ∀ l : List Oper, match pickAt c l with
    | some (gr, dst, x, y, rest) => l.take (ahead c l) = gr ∧ ∃ t p a g z, l.drop (ahead c l) = ⟨dst, .pick z x y, t, p, a, g⟩ :: rest
    | none => l.drop (ahead c l) = []
  | [] => by simp [pickAt]
  | o :: l => by
    have ih := pickAt_ok c l
    have other : ahead c (o :: l) = ahead c l + 1 → pickAt c (o :: l) = (pickAt c l).map (fun r => (o :: r.1, r.2)) → match pickAt c (o :: l) with
        | some (gr, dst, x, y, rest) => (o :: l).take (ahead c (o :: l)) = gr ∧ ∃ t p a g z, (o :: l).drop (ahead c (o :: l)) = ⟨dst, .pick z x y, t, p, a, g⟩ :: rest
        | none => (o :: l).drop (ahead c (o :: l)) = [] := fun h1 h2 => by
      rw [h1, h2]
      cases hp : pickAt c l with
      | none =>
        rw [hp] at ih
        simpa using ih
      | some r =>
        obtain ⟨gr, dst, x, y, rest⟩ := r
        rw [hp] at ih
        obtain ⟨i1, i2⟩ := ih
        exact ⟨by simp [i1], by simpa using i2⟩
    obtain ⟨dst, op, ty, po, af, gd⟩ := o
    cases op with
    | pick z x y =>
      cases z with
      | tmp q =>
        by_cases hq : q = c
        · have h1 : pickAt c (⟨dst, .pick (.tmp q) x y, ty, po, af, gd⟩ :: l) = some ([], dst, x, y, l) := by simp [pickAt, hq]
          have h2 : ahead c (⟨dst, .pick (.tmp q) x y, ty, po, af, gd⟩ :: l) = 0 := by simp [ahead, hq]
          rw [h1, h2]
          exact ⟨rfl, ty, po, af, gd, .tmp q, rfl⟩
        · exact other (by simp [ahead, hq]) (by simp [pickAt, hq])
      | _ => exact other rfl rfl
    | _ => exact other rfl rfl

def isPick (c : Tmp) : Op → Option (Operand × Operand)
  | .pick (.tmp d) x y => if d = c then some (x, y) else none
  | _ => none
def pickGo (c : Tmp) : List Oper → List Oper → Option (List Oper × Option Tmp × Operand × Operand × List Oper)
  | _, [] => none
  | acc, o :: l => match isPick c o.op with
    | some (x, y) => some (acc.reverse, o.dst, x, y, l)
    | none => pickGo c (o :: acc) l
theorem pickGo_eq (c : Tmp) : ∀ l acc, pickGo c acc l = (pickAt c l).map fun r => (acc.reverse ++ r.1, r.2)
  | [], _ => rfl
  | o :: l, acc => by
    have ih := pickGo_eq c l (o :: acc)
    have other : isPick c o.op = none → pickAt c (o :: l) = (pickAt c l).map (fun r => (o :: r.1, r.2)) → pickGo c acc (o :: l) = (pickAt c (o :: l)).map fun r => (acc.reverse ++ r.1, r.2) := fun h1 h2 => by
      simp only [pickGo, h1, h2, ih, Option.map_map]
      congr 1
      funext r
      simp
    obtain ⟨dst, op, ty, po, af, gd⟩ := o
    cases op with
    | pick z x y =>
      cases z with
      | tmp q =>
        by_cases hq : q = c
        · simp [pickGo, isPick, pickAt, hq]
        · exact other (by simp [isPick, hq]) (by simp [pickAt, hq])
      | _ => exact other rfl rfl
    | _ => exact other rfl rfl
theorem pickGo_yes {c : Tmp} {acc l : List Oper} {x y : Operand} {t : TypeId} {p : String} {a : Array Edge} {g : Option (Nat × Bool)} {d : Option Tmp} : pickGo c acc (⟨d, .pick (.tmp c) x y, t, p, a, g⟩ :: l) = some (acc.reverse, d, x, y, l) := by simp [pickGo, isPick]

theorem run_groupA {ops rest : List Oper} {n q : Nat} {w : Bool} {ctx : Option (Nat × Bool)} {e : Env} {op : Op} {Q : Env × H → Prop} (hne : some (q, w) ≠ ctx) :
    Ok (runOps call P ops (n + 1) ctx (⟨d, op, t, p, a, some (q, w)⟩ :: rest) e h) Q ↔
      Ok (dstOf ops q) fun c => Ok (boolOf (get e c)) fun b => Ok (pickAt c (⟨d, op, t, p, a, some (q, w)⟩ :: rest)) fun z =>
        if b = w then Ok (runOps call P ops n (some (q, w)) z.1 e h) fun r => Ok (runOps call P ops n ctx z.2.2.2.2 (put (forget z.1 e) z.2.1 (ev r.1 (cond w z.2.2.1 z.2.2.2.1))) r.2) Q
        else Ok (runOps call P ops n ctx z.2.2.2.2 (put (forget z.1 e) z.2.1 (ev (forget z.1 e) (cond w z.2.2.2.1 z.2.2.1))) h) Q := by
  have e1 : runOps call P ops (n + 1) ctx (⟨d, op, t, p, a, some (q, w)⟩ :: rest) e h = (dstOf ops q).bind fun c => (boolOf (get e c)).bind fun b => (pickAt c (⟨d, op, t, p, a, some (q, w)⟩ :: rest)).bind fun z =>
      (cond (b == w) ((runOps call P ops n (some (q, w)) z.1 e h).map fun r => (ev r.1 (cond w z.2.2.1 z.2.2.2.1), r.2)) (some (ev (forget z.1 e) (cond w z.2.2.2.1 z.2.2.1), h))).bind
        fun r => runOps call P ops n ctx z.2.2.2.2 (put (forget z.1 e) z.2.1 r.1) r.2 := by
    rw [runOps, if_neg hne]
    simp only
    cases hq : dstOf ops q with
    | none => rfl
    | some c =>
      simp only [Option.bind_some]
      rw [show e.getD c .undef = get e c from rfl]
      cases hb : get e c with
      | bool b =>
        simp only [boolOf, Option.bind_some]
        have hp := pickAt_ok c (⟨d, op, t, p, a, some (q, w)⟩ :: rest)
        cases hpp : pickAt c (⟨d, op, t, p, a, some (q, w)⟩ :: rest) with
        | none =>
          rw [hpp] at hp
          simp only at hp
          rw [hp]
          rfl
        | some z =>
          obtain ⟨gr, dst, x, y, rest'⟩ := z
          rw [hpp] at hp
          obtain ⟨h1, t', p', a', g', z', h2⟩ := hp
          rw [h2, h1]
          rfl
      | _ => rfl
  rw [e1]
  simp only [Ok_bind]
  refine Iff.of_eq (congrArg _ (funext fun c => congrArg _ (funext fun b => congrArg _ (funext fun z => propext ?_))))
  by_cases hb : b = w
  · subst hb
    simp
  · have : (b == w) = false := by simpa using hb
    rw [if_neg hb, this]
    simp
theorem run_group {ops rest : List Oper} {n q : Nat} {w : Bool} {ctx : Option (Nat × Bool)} {e : Env} {op : Op} {Q : Env × H → Prop} (hne : some (q, w) ≠ ctx) :
    Ok (runOps call P ops (n + 1) ctx (⟨d, op, t, p, a, some (q, w)⟩ :: rest) e h) Q ↔
      Ok (dstOf ops q) fun c => Ok (boolOf (get e c)) fun b => Ok (pickGo c [] (⟨d, op, t, p, a, some (q, w)⟩ :: rest)) fun z =>
        if b = w then Ok (runOps call P ops n (some (q, w)) z.1 e h) fun r => Ok (runOps call P ops n ctx z.2.2.2.2 (put (forget z.1 e) z.2.1 (ev r.1 (cond w z.2.2.1 z.2.2.2.1))) r.2) Q
        else Ok (runOps call P ops n ctx z.2.2.2.2 (put (forget z.1 e) z.2.1 (ev (forget z.1 e) (cond w z.2.2.2.1 z.2.2.1))) h) Q := by
  rw [run_groupA hne]
  refine Iff.of_eq (congrArg _ (funext fun c => congrArg _ (funext fun b => ?_)))
  have : ∀ l, pickGo c [] l = pickAt c l := fun l => by rw [pickGo_eq]; simp
  rw [this]
@[congr] theorem dstOf_congr {ops : List Oper} {q : Nat} : dstOf ops q = dstOf ops q := rfl
theorem dstOf_zero {o : Oper} {l : List Oper} : dstOf (o :: l) 0 = o.dst := rfl
theorem dstOf_succ {o : Oper} {l : List Oper} {q : Nat} : dstOf (o :: l) (q + 1) = dstOf l q := rfl
@[congr] theorem forget_congr {l : List Oper} {e e' : Env} (h : e = e') : forget l e = forget l e' := by rw [h]
@[simp] theorem forget_nil {e : Env} : forget [] e = e := rfl
@[simp] theorem forget_cons {o : Oper} {l : List Oper} {e : Env} : forget (o :: l) e = forget l (put e o.dst .undef) := rfl
end
@[simp] theorem cells_int {k : IntKind} {n : Int} : V.cells (.int k n) = [.int k n] := rfl
@[simp] theorem cells_str {l : List UInt8} : V.cells (.str l) = [.str l] := rfl
@[simp] theorem cells_bool {b : Bool} : V.cells (.bool b) = [.bool b] := rfl
@[simp] theorem cells_nils : V.cells .nils = [.nils] := rfl
@[simp] theorem cells_nilp : V.cells .nilp = [.nilp] := rfl
@[simp] theorem cells_sl {b o n v z : Nat} {l : Bool} : V.cells (.sl b o n v z l) = [.sl b o n v z l] := rfl
@[simp] theorem cells_ptr {b o n v : Nat} : V.cells (.ptr b o n v) = [.ptr b o n v] := rfl
@[simp] theorem cells_agg {l : List V} : V.cells (.agg l) = l := rfl
attribute [simp] pickGo_yes dstOf_zero dstOf_succ
section
variable {c : Tmp} {x y : Operand} {t s u : TypeId} {n : Nat} {ps : Array (Nat × Operand)} {o : BinOp} {o' : UnOp} {f : Fn} {xs ys : Array Operand} {lo hi m : Option Operand} {cl : Go.Call} {acc l : List Oper} {p : String} {a : Array Edge} {g : Option (Nat × Bool)} {d : Option Tmp}
@[simp] theorem pickGo_move : pickGo c acc (⟨d, .move x, t, p, a, g⟩ :: l) = pickGo c (⟨d, .move x, t, p, a, g⟩ :: acc) l := rfl
@[simp] theorem pickGo_assign : pickGo c acc (⟨d, .assign x, t, p, a, g⟩ :: l) = pickGo c (⟨d, .assign x, t, p, a, g⟩ :: acc) l := rfl
@[simp] theorem pickGo_alloc : pickGo c acc (⟨d, .alloc s, t, p, a, g⟩ :: l) = pickGo c (⟨d, .alloc s, t, p, a, g⟩ :: acc) l := rfl
@[simp] theorem pickGo_box : pickGo c acc (⟨d, .box s x, t, p, a, g⟩ :: l) = pickGo c (⟨d, .box s x, t, p, a, g⟩ :: acc) l := rfl
@[simp] theorem pickGo_build : pickGo c acc (⟨d, .build s ps, t, p, a, g⟩ :: l) = pickGo c (⟨d, .build s ps, t, p, a, g⟩ :: acc) l := rfl
@[simp] theorem pickGo_buildSlice : pickGo c acc (⟨d, .buildSlice s n ps, t, p, a, g⟩ :: l) = pickGo c (⟨d, .buildSlice s n ps, t, p, a, g⟩ :: acc) l := rfl
@[simp] theorem pickGo_load : pickGo c acc (⟨d, .load s x, t, p, a, g⟩ :: l) = pickGo c (⟨d, .load s x, t, p, a, g⟩ :: acc) l := rfl
@[simp] theorem pickGo_store : pickGo c acc (⟨d, .store s x y, t, p, a, g⟩ :: l) = pickGo c (⟨d, .store s x y, t, p, a, g⟩ :: acc) l := rfl
@[simp] theorem pickGo_nilCheck : pickGo c acc (⟨d, .nilCheck x, t, p, a, g⟩ :: l) = pickGo c (⟨d, .nilCheck x, t, p, a, g⟩ :: acc) l := rfl
@[simp] theorem pickGo_binOp : pickGo c acc (⟨d, .binOp o s x y u, t, p, a, g⟩ :: l) = pickGo c (⟨d, .binOp o s x y u, t, p, a, g⟩ :: acc) l := rfl
@[simp] theorem pickGo_unOp : pickGo c acc (⟨d, .unOp o' s x, t, p, a, g⟩ :: l) = pickGo c (⟨d, .unOp o' s x, t, p, a, g⟩ :: acc) l := rfl
@[simp] theorem pickGo_convert : pickGo c acc (⟨d, .convert s u x, t, p, a, g⟩ :: l) = pickGo c (⟨d, .convert s u x, t, p, a, g⟩ :: acc) l := rfl
@[simp] theorem pickGo_makeInterface : pickGo c acc (⟨d, .makeInterface s x, t, p, a, g⟩ :: l) = pickGo c (⟨d, .makeInterface s x, t, p, a, g⟩ :: acc) l := rfl
@[simp] theorem pickGo_makeFunc : pickGo c acc (⟨d, .makeFunc f xs ys, t, p, a, g⟩ :: l) = pickGo c (⟨d, .makeFunc f xs ys, t, p, a, g⟩ :: acc) l := rfl
@[simp] theorem pickGo_makeSlice : pickGo c acc (⟨d, .makeSlice s x y, t, p, a, g⟩ :: l) = pickGo c (⟨d, .makeSlice s x y, t, p, a, g⟩ :: acc) l := rfl
@[simp] theorem pickGo_slice : pickGo c acc (⟨d, .slice s x lo hi m, t, p, a, g⟩ :: l) = pickGo c (⟨d, .slice s x lo hi m, t, p, a, g⟩ :: acc) l := rfl
@[simp] theorem pickGo_fieldAddr : pickGo c acc (⟨d, .fieldAddr s x n, t, p, a, g⟩ :: l) = pickGo c (⟨d, .fieldAddr s x n, t, p, a, g⟩ :: acc) l := rfl
@[simp] theorem pickGo_field : pickGo c acc (⟨d, .field s x n, t, p, a, g⟩ :: l) = pickGo c (⟨d, .field s x n, t, p, a, g⟩ :: acc) l := rfl
@[simp] theorem pickGo_indexAddr : pickGo c acc (⟨d, .indexAddr s x y, t, p, a, g⟩ :: l) = pickGo c (⟨d, .indexAddr s x y, t, p, a, g⟩ :: acc) l := rfl
@[simp] theorem pickGo_index : pickGo c acc (⟨d, .index s x y, t, p, a, g⟩ :: l) = pickGo c (⟨d, .index s x y, t, p, a, g⟩ :: acc) l := rfl
@[simp] theorem pickGo_extract : pickGo c acc (⟨d, .extract x n, t, p, a, g⟩ :: l) = pickGo c (⟨d, .extract x n, t, p, a, g⟩ :: acc) l := rfl
@[simp] theorem pickGo_call : pickGo c acc (⟨d, .call cl, t, p, a, g⟩ :: l) = pickGo c (⟨d, .call cl, t, p, a, g⟩ :: acc) l := rfl
@[simp] theorem pickGo_pick {q : Tmp} (h : (q == c) = false) : pickGo c acc (⟨d, .pick (.tmp q) x y, t, p, a, g⟩ :: l) = pickGo c (⟨d, .pick (.tmp q) x y, t, p, a, g⟩ :: acc) l := by
  simp only [beq_eq_false_iff_ne] at h
  simp [pickGo, isPick, h]
end
end Go.Hl
