import Derived.Test.YtbncfiijlnakkaaHlW
/-! Hl: the rules that a walk uses by itself. -/
namespace Go.Hl
/-- Only the head is worked on: what follows waits. -/
@[congr] theorem Ok_congr {α : Type} {o o' : Option α} {Q : α → Prop} (h : o = o') : Ok o Q = Ok o' Q := by rw [h]
@[congr] theorem W_congr {P : Program} {c : Code} {e e' : Env} {h h' : H} {Q : Ex → Env → H → Prop} (he : e = e') (hh : h = h') : W P c e h Q = W P c e' h' Q := by rw [he, hh]
@[congr] theorem andThen_congr {b : Env → H → Prop} {Q : Ex → Env → H → Prop} {x x' : Ex} {e e' : Env} {h h' : H} (hx : x = x') (he : e = e') (hh : h = h') : andThen b Q x e h = andThen b Q x' e' h' := by rw [hx, he, hh]
@[congr] theorem blockEnd_congr {i : Nat} {Q : Ex → Env → H → Prop} {x x' : Ex} {e e' : Env} {h h' : H} (hx : x = x') (he : e = e') (hh : h = h') : blockEnd i Q x e h = blockEnd i Q x' e' h' := by rw [hx, he, hh]
@[congr] theorem handed_congr {P : Program} {rs : List ResultVar} {h0 : H} {R : V × H → Prop} {x x' : Ex} {e e' : Env} {h h' : H} (hx : x = x') (he : e = e') (hh : h = h') : handed P rs h0 R x e h = handed P rs h0 R x' e' h' := by rw [hx, he, hh]
@[congr] theorem condW_congr {P : Program} {a b : Code} {e e' : Env} {h h' : H} {Q : Ex → Env → H → Prop} {v v' : V} (he : e = e') (hh : h = h') (hv : v = v') : condW P a b e h Q v = condW P a b e' h' Q v' := by rw [he, hh, hv]
@[congr] theorem runS_congr {call : CallT} {P : Program} {ops : List Oper} {n n' : Nat} {ctx : Option (Nat × Bool)} {l : List Oper} {e e' : Env} {h h' : H} (hn : n = n') (he : e = e') (hh : h = h') : runOps call P ops n ctx l e h = runOps call P ops n' ctx l e' h' := by rw [hn, he, hh]
@[congr] theorem stepS_congr {call : CallT} {P : Program} {o : Oper} {ρ ρ' : Operand → V} {h h' : H} (hp : ρ = ρ') (hh : h = h') : step call P o ρ h = step call P o ρ' h' := by rw [hp, hh]
theorem W_regionL {P : Program} {id : Nat} {l : List Oper} {e : Env} {h : H} {Q : Ex → Env → H → Prop} : W P (.region id (List.toArray l) false) e h Q ↔ Ok (runOps (Does P) P l l.length none l e h) fun r => Q .normal r.1 r.2 := by
  rw [W_region]
  simp only [List.size_toArray]
attribute [simp] Ok_some Ok_none Ok_bind Ok_map Ok_if_none Ok_none_if W_skip W_ret W_exit andThen_normal andThen_ret andThen_exit blockEnd_normal blockEnd_ret blockEnd_exit
  W_seq W_block W_cond condW_dec condW_bool W_regionL handed_ret handed_normal run_nil run_cons do_move do_assign do_bin do_un do_len do_min do_max do_call min_int max_int
  ev_tmp ev_const ev_func put_some put_none upd_ne upd_same get_mk set_mk len_mk getD_get get_zero get_succ get_nil results_nil results_tmp results_cell tupOf_one leave_same V.under V.unders bin_shl bin_shr

section
variable {P : Program} {t : TypeId} {k : IntKind} {x y : Int}
@[simp] theorem bin_add : binV P .add t (.int k x) (.int k y) = some (.int k (k.wrap (x + y))) := by simp [binV, intOp]
@[simp] theorem bin_sub : binV P .sub t (.int k x) (.int k y) = some (.int k (k.wrap (x - y))) := by simp [binV, intOp]
@[simp] theorem bin_mul : binV P .mul t (.int k x) (.int k y) = some (.int k (k.wrap (x * y))) := by simp [binV, intOp]
@[simp] theorem bin_quo : binV P .quo t (.int k x) (.int k y) = if y = 0 then none else some (.int k (k.wrap (x.tdiv y))) := by simp [binV, intOp]
@[simp] theorem bin_rem : binV P .rem t (.int k x) (.int k y) = if y = 0 then none else some (.int k (x.tmod y)) := by simp [binV, intOp]
@[simp] theorem bin_eql : binV P .eql t (.int k x) (.int k y) = some (.bool (decide (x = y))) := by simp [binV, intOp, BEq.beq, instBEqOfDecidableEq]
@[simp] theorem bin_neq : binV P .neq t (.int k x) (.int k y) = some (.bool (decide (x ≠ y))) := by simp [binV, intOp, bne, BEq.beq, instBEqOfDecidableEq]
@[simp] theorem bin_lss : binV P .lss t (.int k x) (.int k y) = some (.bool (decide (x < y))) := by simp [binV, intOp]
@[simp] theorem bin_leq : binV P .leq t (.int k x) (.int k y) = some (.bool (decide (x ≤ y))) := by simp [binV, intOp]
@[simp] theorem bin_gtr : binV P .gtr t (.int k x) (.int k y) = some (.bool (decide (x > y))) := by simp [binV, intOp]
@[simp] theorem bin_geq : binV P .geq t (.int k x) (.int k y) = some (.bool (decide (x ≥ y))) := by simp [binV, intOp]
@[simp] theorem bin_and : binV P .and t (.int k x) (.int k y) = (bitsOp .and k x y).map (.int k) := by simp [binV, intOp]
@[simp] theorem bin_or : binV P .or t (.int k x) (.int k y) = (bitsOp .or k x y).map (.int k) := by simp [binV, intOp]
@[simp] theorem bin_xor : binV P .xor t (.int k x) (.int k y) = (bitsOp .xor k x y).map (.int k) := by simp [binV, intOp]
end

end Go.Hl
