import Derived.Test.YtbncfiijlnakkaaHlW
/-! Hl: the rules that a walk uses by itself. -/
namespace Go.Hl
attribute [simp] Ok_some Ok_none Ok_bind Ok_map Ok_if_none Ok_none_if W_skip W_ret W_exit andThen_normal andThen_ret andThen_exit blockEnd_normal blockEnd_ret blockEnd_exit
  W_seq W_block W_cond condW_dec condW_bool W_region handed_ret handed_normal run_nil run_cons do_move do_assign do_bin do_un do_len do_min do_max do_call min_int max_int
  ev_tmp ev_const ev_func put_some put_none get_set_ne get_set_same getD_get get_zero get_succ get_nil results_nil results_tmp results_cell tupOf_one leave_same V.under V.unders bin_str bin_shl bin_shr

section
variable {P : Program} {t : TypeId} {k : IntKind} {x y : Int}
@[simp] theorem bin_add : binV P .add t (.int k x) (.int k y) = some (.int k (k.wrap (x + y))) := by simp [binV, intOp]
@[simp] theorem bin_sub : binV P .sub t (.int k x) (.int k y) = some (.int k (k.wrap (x - y))) := by simp [binV, intOp]
@[simp] theorem bin_mul : binV P .mul t (.int k x) (.int k y) = some (.int k (k.wrap (x * y))) := by simp [binV, intOp]
@[simp] theorem bin_quo : binV P .quo t (.int k x) (.int k y) = if y = 0 then none else some (.int k (k.wrap (x.tdiv y))) := by simp [binV, intOp]
@[simp] theorem bin_rem : binV P .rem t (.int k x) (.int k y) = if y = 0 then none else some (.int k (x.tmod y)) := by simp [binV, intOp]
@[simp] theorem bin_eql : binV P .eql t (.int k x) (.int k y) = some (.bool (decide (x = y))) := by simp [binV, intOp, BEq.beq, instBEqOfDecidableEq]
@[simp] theorem bin_neq : binV P .neq t (.int k x) (.int k y) = some (.bool (decide (x ≠ y))) := by simp [binV, intOp, bne, BEq.beq, instBEqOfDecidableEq]
@[simp] theorem bin_lss : binV P .lss t (.int k x) (.int k y) = some (.bool (decide (x < y))) := by simp [binV, intOp]
@[simp] theorem bin_leq : binV P .leq t (.int k x) (.int k y) = some (.bool (decide (x ≤ y))) := by simp [binV, intOp]
@[simp] theorem bin_gtr : binV P .gtr t (.int k x) (.int k y) = some (.bool (decide (x > y))) := by simp [binV, intOp]
@[simp] theorem bin_geq : binV P .geq t (.int k x) (.int k y) = some (.bool (decide (x ≥ y))) := by simp [binV, intOp]
@[simp] theorem bin_and : binV P .and t (.int k x) (.int k y) = (bitsOp .and k x y).map (.int k) := by simp [binV, intOp]
@[simp] theorem bin_or : binV P .or t (.int k x) (.int k y) = (bitsOp .or k x y).map (.int k) := by simp [binV, intOp]
@[simp] theorem bin_xor : binV P .xor t (.int k x) (.int k y) = (bitsOp .xor k x y).map (.int k) := by simp [binV, intOp]
end

end Go.Hl
