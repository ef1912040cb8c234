import Derived.Test.YtbncfiijlnakkaaHlT1
namespace Go.Proofs.Ytbncfiijlnakkaa
open Go.Hl
def tabV : List V := crcTab.map fun n => .int .u32 (n : Nat)
theorem tabV_at {i : Nat} (h : i < 256) : tabV[i]? = some (.int .u32 ((Hl.steps 8 i : Nat) : Int)) := by
  simp [tabV, crcTab_steps i h]
theorem ti72 : ti Try.prog 72 = some ⟨256, true, 1024, List.replicate 256 (.int .u32 0), .arr 256 1 false⟩ := by kernel_rfl
theorem tabV_len : tabV.length = 256 := by kernel_rfl
theorem tabV_ok : tabV.all V.cellOk = true := by kernel_rfl
theorem tabV_escs (b : Nat) : escs b tabV = [] := by kernel_rfl
theorem tabV_under (n : Nat) : V.under n (.agg tabV) = true := by kernel_rfl
theorem table_eq (h : H) : Does Try.prog 40 [] h = some (.agg tabV, h) := by
  refine Does_eq (n := 2) (rs := [.cell 0 72]) Try.func40 (by kernel_rfl) rfl rfl rfl (by simp) fun σ hg => ?_
  have ht := ti72
  have h0 : (List.replicate 256 (V.int .u32 0)).all V.cellOk = true := by kernel_rfl
  have h1 := tabV_len
  have h2 := tabV_ok
  have h3 := tabV_escs
  have h4 : splice (List.replicate 256 (V.int .u32 0)) 0 tabV = tabV := by kernel_rfl
  have h5 : tabV.take 256 = tabV := by kernel_rfl
  have h6 := tabV_under h.size
  generalize hz : List.replicate 256 (V.int .u32 0) = z at *
  have hzl : z.length = 256 := by rw [← hz]; exact List.length_replicate
  clear hz
  rw [W_seq, W_region]
  refine (run_cons).2 ((do_alloc' ht).2 ⟨h0, run_nil.2 ?_⟩)
  simp only [andThen_normal]
  rw [W_seq, W_region]
  refine (run_cons).2 ((do_pure rfl).2 (Ok.of (a := .agg tabV) (by kernel_rfl) ?_))
  refine (run_cons).2 ((do_store' ht).2 ?_)
  generalize tabV = tv at *
  simp [h1, hzl, h2, h3, h4, ok_readVar ht, h5]
  exact leave_new (by simpa using h6) (by simp)
end Go.Proofs.Ytbncfiijlnakkaa
