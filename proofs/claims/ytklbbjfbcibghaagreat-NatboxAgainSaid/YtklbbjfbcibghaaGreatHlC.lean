/- Part 3 of the library and the walks that the law's proof stands on: no condition. -/
import Derived.Test.YtklbbjfbcibghaaGreatHlB
import Derived.Test.YtklbbjfbcibghaaGreatProg
import Derived.KernelRfl
import Derived.Tactics
import Derived.Tactics2
import Derived.WalkKit
import Derived.IntWalk
import Derived.Deep.RegionWith
import Derived.Deep.RegionHeld3
import Derived.Deep.DeepCutAuto
import Derived.Below
import Derived.Laws.IdiomStrings
section
/-! Facts of the program's types and operations (printed by seat.py). -/
namespace Go.Proofs.YtklbbjfbcibghaaGreat
open Go.Hl
theorem ti3 : ti Tryz.prog 3 = some ⟨1, false, 8, [.int .i64 0], .int .i64⟩ := by kernel_rfl
theorem ti4 : ti Tryz.prog 4 = some ⟨1, false, 1, [.bool false], .bool⟩ := by kernel_rfl
theorem ti5 : ti Tryz.prog 5 = some ⟨1, false, 1, [.int .u8 0], .int .u8⟩ := by kernel_rfl
theorem ti9 : ti Tryz.prog 9 = some ⟨1, false, 16, [.str []], .str⟩ := by kernel_rfl
theorem ti22 : ti Tryz.prog 22 = some ⟨1, false, 4, [.int .u32 0], .int .u32⟩ := by kernel_rfl
theorem ti23 : ti Tryz.prog 23 = some ⟨1, false, 8, [.nilp], .ptr 78⟩ := by kernel_rfl
theorem ti25 : ti Tryz.prog 25 = some ⟨1, false, 4, [.int .u32 0], .int .u32⟩ := by kernel_rfl
theorem ti27 : ti Tryz.prog 27 = some ⟨1, false, 24, [.nils], .slice 47 2 24⟩ := by kernel_rfl
theorem ti28 : ti Tryz.prog 28 = some ⟨1, false, 24, [.nils], .slice 44 2 24⟩ := by kernel_rfl
theorem ti29 : ti Tryz.prog 29 = some ⟨1, false, 24, [.nils], .slice 143 2 16⟩ := by kernel_rfl
theorem ti30 : ti Tryz.prog 30 = some ⟨1, false, 24, [.nils], .slice 22 1 4⟩ := by kernel_rfl
theorem ti32 : ti Tryz.prog 32 = some ⟨15, true, 184, [.int .i64 0, .int .i64 0, .int .u32 0, .int .i64 0, .int .i64 0, .int .u32 0, .str [], .int .u32 0, .int .u32 0, .int .i64 0, .int .i64 0, .nils, .nils, .nils, .nils], .struct [(0, 1, false), (1, 1, false), (2, 1, false), (3, 1, false), (4, 1, false), (5, 1, false), (6, 1, false), (7, 1, false), (8, 1, false), (9, 1, false), (10, 1, false), (11, 1, false), (12, 1, false), (13, 1, false), (14, 1, false)]⟩ := by kernel_rfl
theorem ti33 : ti Tryz.prog 33 = some ⟨1, false, 24, [.nils], .slice 32 15 184⟩ := by kernel_rfl
theorem ti35 : ti Tryz.prog 35 = some ⟨4, true, 48, [.int .i64 0, .int .i64 0, .int .u32 0, .nils], .struct [(0, 1, false), (1, 1, false), (2, 1, false), (3, 1, false)]⟩ := by kernel_rfl
theorem ti37 : ti Tryz.prog 37 = some ⟨3, true, 24, [.int .u32 0, .int .u32 0, .str []], .struct [(0, 1, false), (1, 1, false), (2, 1, false)]⟩ := by kernel_rfl
theorem ti44 : ti Tryz.prog 44 = some ⟨2, true, 24, [.int .i64 0, .str []], .struct [(0, 1, false), (1, 1, false)]⟩ := by kernel_rfl
theorem ti47 : ti Tryz.prog 47 = some ⟨2, true, 24, [.int .i64 0, .str []], .struct [(0, 1, false), (1, 1, false)]⟩ := by kernel_rfl
theorem ti50 : ti Tryz.prog 50 = some ⟨1, false, 24, [.nils], .slice 53 9 80⟩ := by kernel_rfl
theorem ti51 : ti Tryz.prog 51 = some ⟨1, false, 24, [.nils], .slice 56 7 48⟩ := by kernel_rfl
theorem ti53 : ti Tryz.prog 53 = some ⟨9, true, 80, [.int .i64 0, .int .u32 0, .int .u32 0, .int .i64 0, .int .i64 0, .int .u32 0, .nils, .int .i64 0, .int .i64 0], .struct [(0, 1, false), (1, 1, false), (2, 1, false), (3, 4, true), (7, 1, false), (8, 1, false)]⟩ := by kernel_rfl
theorem ti56 : ti Tryz.prog 56 = some ⟨7, true, 48, [.int .u32 0, .int .i64 0, .int .u32 0, .int .i64 0, .int .u32 0, .int .u32 0, .int .i64 0], .struct [(0, 1, false), (1, 1, false), (2, 1, false), (3, 1, false), (4, 1, false), (5, 1, false), (6, 1, false)]⟩ := by kernel_rfl
theorem ti62 : ti Tryz.prog 62 = some ⟨1, false, 24, [.nils], .slice 64 2 24⟩ := by kernel_rfl
theorem ti64 : ti Tryz.prog 64 = some ⟨2, true, 24, [.int .i64 0, .str []], .struct [(0, 1, false), (1, 1, false)]⟩ := by kernel_rfl
theorem ti75 : ti Tryz.prog 75 = some ⟨1, false, 8, [.nilp], .ptr 118⟩ := by kernel_rfl
theorem ti78 : ti Tryz.prog 78 = some ⟨2, true, 16, [.int .u32 0, .nilp], .struct [(0, 1, false), (1, 1, false)]⟩ := by kernel_rfl
theorem ti81 : ti Tryz.prog 81 = some ⟨1, false, 8, [.int .u64 0], .int .u64⟩ := by kernel_rfl
theorem ti83 : ti Tryz.prog 83 = some ⟨1, false, 8, [.int .i64 0], .int .i64⟩ := by kernel_rfl
theorem ti100 : ti Tryz.prog 100 = some ⟨2, true, 24, [.str [], .int .i64 0], .struct [(0, 1, false), (1, 1, false)]⟩ := by kernel_rfl
theorem ti105 : ti Tryz.prog 105 = some ⟨1, false, 8, [.int .u64 0], .int .u64⟩ := by kernel_rfl
theorem ti106 : ti Tryz.prog 106 = some ⟨1, false, 24, [.nils], .slice 5 1 1⟩ := by kernel_rfl
theorem ti111 : ti Tryz.prog 111 = some ⟨1, false, 8, [.nilp], .ptr 136⟩ := by kernel_rfl
theorem ti118 : ti Tryz.prog 118 = some ⟨2, true, 32, [.int .i64 0, .nils], .struct [(0, 1, false), (1, 1, false)]⟩ := by kernel_rfl
theorem ti136 : ti Tryz.prog 136 = some ⟨2, true, 24, [.str [], .int .i64 0], .struct [(0, 1, false), (1, 1, false)]⟩ := by kernel_rfl
theorem ti143 : ti Tryz.prog 143 = some ⟨2, true, 16, [.int .i64 0, .int .i64 0], .struct [(0, 1, false), (1, 1, false)]⟩ := by kernel_rfl
theorem ti152 : ti Tryz.prog 152 = some ⟨4, true, 32, [.int .u32 0, .int .i64 0, .int .i64 0, .int .u32 0], .struct [(0, 1, false), (1, 1, false), (2, 1, false), (3, 1, false)]⟩ := by kernel_rfl
section
variable {call : CallT} {d : Option Tmp} {t : TypeId} {p : String} {a : Array Edge} {g : Option (Nat × Bool)} {ρ : Operand → V} {h : H} {x y : Operand} {i : Nat} {Q : V × H → Prop}
@[simp, simp ↓] theorem ld3 : Ok (Hl.step call Tryz.prog ⟨d, .load 3 x, t, p, a, g⟩ ρ h) Q ↔ Ok (readV ⟨1, false, 8, [.int .i64 0], .int .i64⟩ (ρ x) h) fun v => Q (v, h) := do_load' ti3
@[simp, simp ↓] theorem ld4 : Ok (Hl.step call Tryz.prog ⟨d, .load 4 x, t, p, a, g⟩ ρ h) Q ↔ Ok (readV ⟨1, false, 1, [.bool false], .bool⟩ (ρ x) h) fun v => Q (v, h) := do_load' ti4
@[simp, simp ↓] theorem ld5 : Ok (Hl.step call Tryz.prog ⟨d, .load 5 x, t, p, a, g⟩ ρ h) Q ↔ Ok (readV ⟨1, false, 1, [.int .u8 0], .int .u8⟩ (ρ x) h) fun v => Q (v, h) := do_load' ti5
@[simp, simp ↓] theorem ld9 : Ok (Hl.step call Tryz.prog ⟨d, .load 9 x, t, p, a, g⟩ ρ h) Q ↔ Ok (readV ⟨1, false, 16, [.str []], .str⟩ (ρ x) h) fun v => Q (v, h) := do_load' ti9
@[simp, simp ↓] theorem ld22 : Ok (Hl.step call Tryz.prog ⟨d, .load 22 x, t, p, a, g⟩ ρ h) Q ↔ Ok (readV ⟨1, false, 4, [.int .u32 0], .int .u32⟩ (ρ x) h) fun v => Q (v, h) := do_load' ti22
@[simp, simp ↓] theorem ld25 : Ok (Hl.step call Tryz.prog ⟨d, .load 25 x, t, p, a, g⟩ ρ h) Q ↔ Ok (readV ⟨1, false, 4, [.int .u32 0], .int .u32⟩ (ρ x) h) fun v => Q (v, h) := do_load' ti25
@[simp, simp ↓] theorem ld27 : Ok (Hl.step call Tryz.prog ⟨d, .load 27 x, t, p, a, g⟩ ρ h) Q ↔ Ok (readV ⟨1, false, 24, [.nils], .slice 47 2 24⟩ (ρ x) h) fun v => Q (v, h) := do_load' ti27
@[simp, simp ↓] theorem ld28 : Ok (Hl.step call Tryz.prog ⟨d, .load 28 x, t, p, a, g⟩ ρ h) Q ↔ Ok (readV ⟨1, false, 24, [.nils], .slice 44 2 24⟩ (ρ x) h) fun v => Q (v, h) := do_load' ti28
@[simp, simp ↓] theorem ld29 : Ok (Hl.step call Tryz.prog ⟨d, .load 29 x, t, p, a, g⟩ ρ h) Q ↔ Ok (readV ⟨1, false, 24, [.nils], .slice 143 2 16⟩ (ρ x) h) fun v => Q (v, h) := do_load' ti29
@[simp, simp ↓] theorem ld30 : Ok (Hl.step call Tryz.prog ⟨d, .load 30 x, t, p, a, g⟩ ρ h) Q ↔ Ok (readV ⟨1, false, 24, [.nils], .slice 22 1 4⟩ (ρ x) h) fun v => Q (v, h) := do_load' ti30
@[simp, simp ↓] theorem ld32 : Ok (Hl.step call Tryz.prog ⟨d, .load 32 x, t, p, a, g⟩ ρ h) Q ↔ Ok (readV ⟨15, true, 184, [.int .i64 0, .int .i64 0, .int .u32 0, .int .i64 0, .int .i64 0, .int .u32 0, .str [], .int .u32 0, .int .u32 0, .int .i64 0, .int .i64 0, .nils, .nils, .nils, .nils], .struct [(0, 1, false), (1, 1, false), (2, 1, false), (3, 1, false), (4, 1, false), (5, 1, false), (6, 1, false), (7, 1, false), (8, 1, false), (9, 1, false), (10, 1, false), (11, 1, false), (12, 1, false), (13, 1, false), (14, 1, false)]⟩ (ρ x) h) fun v => Q (v, h) := do_load' ti32
@[simp, simp ↓] theorem ld33 : Ok (Hl.step call Tryz.prog ⟨d, .load 33 x, t, p, a, g⟩ ρ h) Q ↔ Ok (readV ⟨1, false, 24, [.nils], .slice 32 15 184⟩ (ρ x) h) fun v => Q (v, h) := do_load' ti33
@[simp, simp ↓] theorem ld35 : Ok (Hl.step call Tryz.prog ⟨d, .load 35 x, t, p, a, g⟩ ρ h) Q ↔ Ok (readV ⟨4, true, 48, [.int .i64 0, .int .i64 0, .int .u32 0, .nils], .struct [(0, 1, false), (1, 1, false), (2, 1, false), (3, 1, false)]⟩ (ρ x) h) fun v => Q (v, h) := do_load' ti35
@[simp, simp ↓] theorem ld37 : Ok (Hl.step call Tryz.prog ⟨d, .load 37 x, t, p, a, g⟩ ρ h) Q ↔ Ok (readV ⟨3, true, 24, [.int .u32 0, .int .u32 0, .str []], .struct [(0, 1, false), (1, 1, false), (2, 1, false)]⟩ (ρ x) h) fun v => Q (v, h) := do_load' ti37
@[simp, simp ↓] theorem ld44 : Ok (Hl.step call Tryz.prog ⟨d, .load 44 x, t, p, a, g⟩ ρ h) Q ↔ Ok (readV ⟨2, true, 24, [.int .i64 0, .str []], .struct [(0, 1, false), (1, 1, false)]⟩ (ρ x) h) fun v => Q (v, h) := do_load' ti44
@[simp, simp ↓] theorem ld47 : Ok (Hl.step call Tryz.prog ⟨d, .load 47 x, t, p, a, g⟩ ρ h) Q ↔ Ok (readV ⟨2, true, 24, [.int .i64 0, .str []], .struct [(0, 1, false), (1, 1, false)]⟩ (ρ x) h) fun v => Q (v, h) := do_load' ti47
@[simp, simp ↓] theorem ld51 : Ok (Hl.step call Tryz.prog ⟨d, .load 51 x, t, p, a, g⟩ ρ h) Q ↔ Ok (readV ⟨1, false, 24, [.nils], .slice 56 7 48⟩ (ρ x) h) fun v => Q (v, h) := do_load' ti51
@[simp, simp ↓] theorem ld53 : Ok (Hl.step call Tryz.prog ⟨d, .load 53 x, t, p, a, g⟩ ρ h) Q ↔ Ok (readV ⟨9, true, 80, [.int .i64 0, .int .u32 0, .int .u32 0, .int .i64 0, .int .i64 0, .int .u32 0, .nils, .int .i64 0, .int .i64 0], .struct [(0, 1, false), (1, 1, false), (2, 1, false), (3, 4, true), (7, 1, false), (8, 1, false)]⟩ (ρ x) h) fun v => Q (v, h) := do_load' ti53
@[simp, simp ↓] theorem ld56 : Ok (Hl.step call Tryz.prog ⟨d, .load 56 x, t, p, a, g⟩ ρ h) Q ↔ Ok (readV ⟨7, true, 48, [.int .u32 0, .int .i64 0, .int .u32 0, .int .i64 0, .int .u32 0, .int .u32 0, .int .i64 0], .struct [(0, 1, false), (1, 1, false), (2, 1, false), (3, 1, false), (4, 1, false), (5, 1, false), (6, 1, false)]⟩ (ρ x) h) fun v => Q (v, h) := do_load' ti56
@[simp, simp ↓] theorem ld64 : Ok (Hl.step call Tryz.prog ⟨d, .load 64 x, t, p, a, g⟩ ρ h) Q ↔ Ok (readV ⟨2, true, 24, [.int .i64 0, .str []], .struct [(0, 1, false), (1, 1, false)]⟩ (ρ x) h) fun v => Q (v, h) := do_load' ti64
@[simp, simp ↓] theorem ld75 : Ok (Hl.step call Tryz.prog ⟨d, .load 75 x, t, p, a, g⟩ ρ h) Q ↔ Ok (readV ⟨1, false, 8, [.nilp], .ptr 118⟩ (ρ x) h) fun v => Q (v, h) := do_load' ti75
@[simp, simp ↓] theorem ld83 : Ok (Hl.step call Tryz.prog ⟨d, .load 83 x, t, p, a, g⟩ ρ h) Q ↔ Ok (readV ⟨1, false, 8, [.int .i64 0], .int .i64⟩ (ρ x) h) fun v => Q (v, h) := do_load' ti83
@[simp, simp ↓] theorem ld100 : Ok (Hl.step call Tryz.prog ⟨d, .load 100 x, t, p, a, g⟩ ρ h) Q ↔ Ok (readV ⟨2, true, 24, [.str [], .int .i64 0], .struct [(0, 1, false), (1, 1, false)]⟩ (ρ x) h) fun v => Q (v, h) := do_load' ti100
@[simp, simp ↓] theorem ld143 : Ok (Hl.step call Tryz.prog ⟨d, .load 143 x, t, p, a, g⟩ ρ h) Q ↔ Ok (readV ⟨2, true, 16, [.int .i64 0, .int .i64 0], .struct [(0, 1, false), (1, 1, false)]⟩ (ρ x) h) fun v => Q (v, h) := do_load' ti143
@[simp, simp ↓] theorem ld152 : Ok (Hl.step call Tryz.prog ⟨d, .load 152 x, t, p, a, g⟩ ρ h) Q ↔ Ok (readV ⟨4, true, 32, [.int .u32 0, .int .i64 0, .int .i64 0, .int .u32 0], .struct [(0, 1, false), (1, 1, false), (2, 1, false), (3, 1, false)]⟩ (ρ x) h) fun v => Q (v, h) := do_load' ti152
@[simp, simp ↓] theorem rv3 {v : V} {Q : V → Prop} : Ok (readVar Tryz.prog 3 v h) Q ↔ Ok (readV ⟨1, false, 8, [.int .i64 0], .int .i64⟩ v h) Q := ok_readVar ti3
@[simp, simp ↓] theorem rv4 {v : V} {Q : V → Prop} : Ok (readVar Tryz.prog 4 v h) Q ↔ Ok (readV ⟨1, false, 1, [.bool false], .bool⟩ v h) Q := ok_readVar ti4
@[simp, simp ↓] theorem rv5 {v : V} {Q : V → Prop} : Ok (readVar Tryz.prog 5 v h) Q ↔ Ok (readV ⟨1, false, 1, [.int .u8 0], .int .u8⟩ v h) Q := ok_readVar ti5
@[simp, simp ↓] theorem rv9 {v : V} {Q : V → Prop} : Ok (readVar Tryz.prog 9 v h) Q ↔ Ok (readV ⟨1, false, 16, [.str []], .str⟩ v h) Q := ok_readVar ti9
@[simp, simp ↓] theorem rv22 {v : V} {Q : V → Prop} : Ok (readVar Tryz.prog 22 v h) Q ↔ Ok (readV ⟨1, false, 4, [.int .u32 0], .int .u32⟩ v h) Q := ok_readVar ti22
@[simp, simp ↓] theorem rv25 {v : V} {Q : V → Prop} : Ok (readVar Tryz.prog 25 v h) Q ↔ Ok (readV ⟨1, false, 4, [.int .u32 0], .int .u32⟩ v h) Q := ok_readVar ti25
@[simp, simp ↓] theorem rv27 {v : V} {Q : V → Prop} : Ok (readVar Tryz.prog 27 v h) Q ↔ Ok (readV ⟨1, false, 24, [.nils], .slice 47 2 24⟩ v h) Q := ok_readVar ti27
@[simp, simp ↓] theorem rv28 {v : V} {Q : V → Prop} : Ok (readVar Tryz.prog 28 v h) Q ↔ Ok (readV ⟨1, false, 24, [.nils], .slice 44 2 24⟩ v h) Q := ok_readVar ti28
@[simp, simp ↓] theorem rv29 {v : V} {Q : V → Prop} : Ok (readVar Tryz.prog 29 v h) Q ↔ Ok (readV ⟨1, false, 24, [.nils], .slice 143 2 16⟩ v h) Q := ok_readVar ti29
@[simp, simp ↓] theorem rv30 {v : V} {Q : V → Prop} : Ok (readVar Tryz.prog 30 v h) Q ↔ Ok (readV ⟨1, false, 24, [.nils], .slice 22 1 4⟩ v h) Q := ok_readVar ti30
@[simp, simp ↓] theorem rv32 {v : V} {Q : V → Prop} : Ok (readVar Tryz.prog 32 v h) Q ↔ Ok (readV ⟨15, true, 184, [.int .i64 0, .int .i64 0, .int .u32 0, .int .i64 0, .int .i64 0, .int .u32 0, .str [], .int .u32 0, .int .u32 0, .int .i64 0, .int .i64 0, .nils, .nils, .nils, .nils], .struct [(0, 1, false), (1, 1, false), (2, 1, false), (3, 1, false), (4, 1, false), (5, 1, false), (6, 1, false), (7, 1, false), (8, 1, false), (9, 1, false), (10, 1, false), (11, 1, false), (12, 1, false), (13, 1, false), (14, 1, false)]⟩ v h) Q := ok_readVar ti32
@[simp, simp ↓] theorem rv33 {v : V} {Q : V → Prop} : Ok (readVar Tryz.prog 33 v h) Q ↔ Ok (readV ⟨1, false, 24, [.nils], .slice 32 15 184⟩ v h) Q := ok_readVar ti33
@[simp, simp ↓] theorem rv35 {v : V} {Q : V → Prop} : Ok (readVar Tryz.prog 35 v h) Q ↔ Ok (readV ⟨4, true, 48, [.int .i64 0, .int .i64 0, .int .u32 0, .nils], .struct [(0, 1, false), (1, 1, false), (2, 1, false), (3, 1, false)]⟩ v h) Q := ok_readVar ti35
@[simp, simp ↓] theorem rv37 {v : V} {Q : V → Prop} : Ok (readVar Tryz.prog 37 v h) Q ↔ Ok (readV ⟨3, true, 24, [.int .u32 0, .int .u32 0, .str []], .struct [(0, 1, false), (1, 1, false), (2, 1, false)]⟩ v h) Q := ok_readVar ti37
@[simp, simp ↓] theorem rv44 {v : V} {Q : V → Prop} : Ok (readVar Tryz.prog 44 v h) Q ↔ Ok (readV ⟨2, true, 24, [.int .i64 0, .str []], .struct [(0, 1, false), (1, 1, false)]⟩ v h) Q := ok_readVar ti44
@[simp, simp ↓] theorem rv47 {v : V} {Q : V → Prop} : Ok (readVar Tryz.prog 47 v h) Q ↔ Ok (readV ⟨2, true, 24, [.int .i64 0, .str []], .struct [(0, 1, false), (1, 1, false)]⟩ v h) Q := ok_readVar ti47
@[simp, simp ↓] theorem rv51 {v : V} {Q : V → Prop} : Ok (readVar Tryz.prog 51 v h) Q ↔ Ok (readV ⟨1, false, 24, [.nils], .slice 56 7 48⟩ v h) Q := ok_readVar ti51
@[simp, simp ↓] theorem rv53 {v : V} {Q : V → Prop} : Ok (readVar Tryz.prog 53 v h) Q ↔ Ok (readV ⟨9, true, 80, [.int .i64 0, .int .u32 0, .int .u32 0, .int .i64 0, .int .i64 0, .int .u32 0, .nils, .int .i64 0, .int .i64 0], .struct [(0, 1, false), (1, 1, false), (2, 1, false), (3, 4, true), (7, 1, false), (8, 1, false)]⟩ v h) Q := ok_readVar ti53
@[simp, simp ↓] theorem rv56 {v : V} {Q : V → Prop} : Ok (readVar Tryz.prog 56 v h) Q ↔ Ok (readV ⟨7, true, 48, [.int .u32 0, .int .i64 0, .int .u32 0, .int .i64 0, .int .u32 0, .int .u32 0, .int .i64 0], .struct [(0, 1, false), (1, 1, false), (2, 1, false), (3, 1, false), (4, 1, false), (5, 1, false), (6, 1, false)]⟩ v h) Q := ok_readVar ti56
@[simp, simp ↓] theorem rv64 {v : V} {Q : V → Prop} : Ok (readVar Tryz.prog 64 v h) Q ↔ Ok (readV ⟨2, true, 24, [.int .i64 0, .str []], .struct [(0, 1, false), (1, 1, false)]⟩ v h) Q := ok_readVar ti64
@[simp, simp ↓] theorem rv75 {v : V} {Q : V → Prop} : Ok (readVar Tryz.prog 75 v h) Q ↔ Ok (readV ⟨1, false, 8, [.nilp], .ptr 118⟩ v h) Q := ok_readVar ti75
@[simp, simp ↓] theorem rv83 {v : V} {Q : V → Prop} : Ok (readVar Tryz.prog 83 v h) Q ↔ Ok (readV ⟨1, false, 8, [.int .i64 0], .int .i64⟩ v h) Q := ok_readVar ti83
@[simp, simp ↓] theorem rv100 {v : V} {Q : V → Prop} : Ok (readVar Tryz.prog 100 v h) Q ↔ Ok (readV ⟨2, true, 24, [.str [], .int .i64 0], .struct [(0, 1, false), (1, 1, false)]⟩ v h) Q := ok_readVar ti100
@[simp, simp ↓] theorem rv143 {v : V} {Q : V → Prop} : Ok (readVar Tryz.prog 143 v h) Q ↔ Ok (readV ⟨2, true, 16, [.int .i64 0, .int .i64 0], .struct [(0, 1, false), (1, 1, false)]⟩ v h) Q := ok_readVar ti143
@[simp, simp ↓] theorem rv152 {v : V} {Q : V → Prop} : Ok (readVar Tryz.prog 152 v h) Q ↔ Ok (readV ⟨4, true, 32, [.int .u32 0, .int .i64 0, .int .i64 0, .int .u32 0], .struct [(0, 1, false), (1, 1, false), (2, 1, false), (3, 1, false)]⟩ v h) Q := ok_readVar ti152
@[simp] theorem lde3 : stepE call Tryz.prog ⟨d, .load 3 x, t, p, a, g⟩ ρ h = (readE 1 false (ρ x) h).map fun v => (v, h) := stepE_load ti3
@[simp] theorem lde4 : stepE call Tryz.prog ⟨d, .load 4 x, t, p, a, g⟩ ρ h = (readE 1 false (ρ x) h).map fun v => (v, h) := stepE_load ti4
@[simp] theorem lde5 : stepE call Tryz.prog ⟨d, .load 5 x, t, p, a, g⟩ ρ h = (readE 1 false (ρ x) h).map fun v => (v, h) := stepE_load ti5
@[simp] theorem lde9 : stepE call Tryz.prog ⟨d, .load 9 x, t, p, a, g⟩ ρ h = (readE 1 false (ρ x) h).map fun v => (v, h) := stepE_load ti9
@[simp] theorem lde22 : stepE call Tryz.prog ⟨d, .load 22 x, t, p, a, g⟩ ρ h = (readE 1 false (ρ x) h).map fun v => (v, h) := stepE_load ti22
@[simp] theorem lde25 : stepE call Tryz.prog ⟨d, .load 25 x, t, p, a, g⟩ ρ h = (readE 1 false (ρ x) h).map fun v => (v, h) := stepE_load ti25
@[simp] theorem lde27 : stepE call Tryz.prog ⟨d, .load 27 x, t, p, a, g⟩ ρ h = (readE 1 false (ρ x) h).map fun v => (v, h) := stepE_load ti27
@[simp] theorem lde28 : stepE call Tryz.prog ⟨d, .load 28 x, t, p, a, g⟩ ρ h = (readE 1 false (ρ x) h).map fun v => (v, h) := stepE_load ti28
@[simp] theorem lde29 : stepE call Tryz.prog ⟨d, .load 29 x, t, p, a, g⟩ ρ h = (readE 1 false (ρ x) h).map fun v => (v, h) := stepE_load ti29
@[simp] theorem lde30 : stepE call Tryz.prog ⟨d, .load 30 x, t, p, a, g⟩ ρ h = (readE 1 false (ρ x) h).map fun v => (v, h) := stepE_load ti30
@[simp] theorem lde32 : stepE call Tryz.prog ⟨d, .load 32 x, t, p, a, g⟩ ρ h = (readE 15 true (ρ x) h).map fun v => (v, h) := stepE_load ti32
@[simp] theorem lde33 : stepE call Tryz.prog ⟨d, .load 33 x, t, p, a, g⟩ ρ h = (readE 1 false (ρ x) h).map fun v => (v, h) := stepE_load ti33
@[simp] theorem lde35 : stepE call Tryz.prog ⟨d, .load 35 x, t, p, a, g⟩ ρ h = (readE 4 true (ρ x) h).map fun v => (v, h) := stepE_load ti35
@[simp] theorem lde37 : stepE call Tryz.prog ⟨d, .load 37 x, t, p, a, g⟩ ρ h = (readE 3 true (ρ x) h).map fun v => (v, h) := stepE_load ti37
@[simp] theorem lde44 : stepE call Tryz.prog ⟨d, .load 44 x, t, p, a, g⟩ ρ h = (readE 2 true (ρ x) h).map fun v => (v, h) := stepE_load ti44
@[simp] theorem lde47 : stepE call Tryz.prog ⟨d, .load 47 x, t, p, a, g⟩ ρ h = (readE 2 true (ρ x) h).map fun v => (v, h) := stepE_load ti47
@[simp] theorem lde51 : stepE call Tryz.prog ⟨d, .load 51 x, t, p, a, g⟩ ρ h = (readE 1 false (ρ x) h).map fun v => (v, h) := stepE_load ti51
@[simp] theorem lde53 : stepE call Tryz.prog ⟨d, .load 53 x, t, p, a, g⟩ ρ h = (readE 9 true (ρ x) h).map fun v => (v, h) := stepE_load ti53
@[simp] theorem lde56 : stepE call Tryz.prog ⟨d, .load 56 x, t, p, a, g⟩ ρ h = (readE 7 true (ρ x) h).map fun v => (v, h) := stepE_load ti56
@[simp] theorem lde64 : stepE call Tryz.prog ⟨d, .load 64 x, t, p, a, g⟩ ρ h = (readE 2 true (ρ x) h).map fun v => (v, h) := stepE_load ti64
@[simp] theorem lde75 : stepE call Tryz.prog ⟨d, .load 75 x, t, p, a, g⟩ ρ h = (readE 1 false (ρ x) h).map fun v => (v, h) := stepE_load ti75
@[simp] theorem lde83 : stepE call Tryz.prog ⟨d, .load 83 x, t, p, a, g⟩ ρ h = (readE 1 false (ρ x) h).map fun v => (v, h) := stepE_load ti83
@[simp] theorem lde100 : stepE call Tryz.prog ⟨d, .load 100 x, t, p, a, g⟩ ρ h = (readE 2 true (ρ x) h).map fun v => (v, h) := stepE_load ti100
@[simp] theorem lde143 : stepE call Tryz.prog ⟨d, .load 143 x, t, p, a, g⟩ ρ h = (readE 2 true (ρ x) h).map fun v => (v, h) := stepE_load ti143
@[simp] theorem lde152 : stepE call Tryz.prog ⟨d, .load 152 x, t, p, a, g⟩ ρ h = (readE 4 true (ρ x) h).map fun v => (v, h) := stepE_load ti152
@[simp] theorem fae32 : stepE call Tryz.prog ⟨d, .fieldAddr 32 x i, t, p, a, g⟩ ρ h = (fieldAddrV ⟨15, true, 184, [.int .i64 0, .int .i64 0, .int .u32 0, .int .i64 0, .int .i64 0, .int .u32 0, .str [], .int .u32 0, .int .u32 0, .int .i64 0, .int .i64 0, .nils, .nils, .nils, .nils], .struct [(0, 1, false), (1, 1, false), (2, 1, false), (3, 1, false), (4, 1, false), (5, 1, false), (6, 1, false), (7, 1, false), (8, 1, false), (9, 1, false), (10, 1, false), (11, 1, false), (12, 1, false), (13, 1, false), (14, 1, false)]⟩ (ρ x) i).map fun v => (v, h) := stepE_fieldAddr ti32
@[simp] theorem fae35 : stepE call Tryz.prog ⟨d, .fieldAddr 35 x i, t, p, a, g⟩ ρ h = (fieldAddrV ⟨4, true, 48, [.int .i64 0, .int .i64 0, .int .u32 0, .nils], .struct [(0, 1, false), (1, 1, false), (2, 1, false), (3, 1, false)]⟩ (ρ x) i).map fun v => (v, h) := stepE_fieldAddr ti35
@[simp] theorem fae37 : stepE call Tryz.prog ⟨d, .fieldAddr 37 x i, t, p, a, g⟩ ρ h = (fieldAddrV ⟨3, true, 24, [.int .u32 0, .int .u32 0, .str []], .struct [(0, 1, false), (1, 1, false), (2, 1, false)]⟩ (ρ x) i).map fun v => (v, h) := stepE_fieldAddr ti37
@[simp] theorem fae44 : stepE call Tryz.prog ⟨d, .fieldAddr 44 x i, t, p, a, g⟩ ρ h = (fieldAddrV ⟨2, true, 24, [.int .i64 0, .str []], .struct [(0, 1, false), (1, 1, false)]⟩ (ρ x) i).map fun v => (v, h) := stepE_fieldAddr ti44
@[simp] theorem fae47 : stepE call Tryz.prog ⟨d, .fieldAddr 47 x i, t, p, a, g⟩ ρ h = (fieldAddrV ⟨2, true, 24, [.int .i64 0, .str []], .struct [(0, 1, false), (1, 1, false)]⟩ (ρ x) i).map fun v => (v, h) := stepE_fieldAddr ti47
@[simp] theorem fae53 : stepE call Tryz.prog ⟨d, .fieldAddr 53 x i, t, p, a, g⟩ ρ h = (fieldAddrV ⟨9, true, 80, [.int .i64 0, .int .u32 0, .int .u32 0, .int .i64 0, .int .i64 0, .int .u32 0, .nils, .int .i64 0, .int .i64 0], .struct [(0, 1, false), (1, 1, false), (2, 1, false), (3, 4, true), (7, 1, false), (8, 1, false)]⟩ (ρ x) i).map fun v => (v, h) := stepE_fieldAddr ti53
@[simp] theorem fae56 : stepE call Tryz.prog ⟨d, .fieldAddr 56 x i, t, p, a, g⟩ ρ h = (fieldAddrV ⟨7, true, 48, [.int .u32 0, .int .i64 0, .int .u32 0, .int .i64 0, .int .u32 0, .int .u32 0, .int .i64 0], .struct [(0, 1, false), (1, 1, false), (2, 1, false), (3, 1, false), (4, 1, false), (5, 1, false), (6, 1, false)]⟩ (ρ x) i).map fun v => (v, h) := stepE_fieldAddr ti56
@[simp] theorem fae64 : stepE call Tryz.prog ⟨d, .fieldAddr 64 x i, t, p, a, g⟩ ρ h = (fieldAddrV ⟨2, true, 24, [.int .i64 0, .str []], .struct [(0, 1, false), (1, 1, false)]⟩ (ρ x) i).map fun v => (v, h) := stepE_fieldAddr ti64
@[simp] theorem fae78 : stepE call Tryz.prog ⟨d, .fieldAddr 78 x i, t, p, a, g⟩ ρ h = (fieldAddrV ⟨2, true, 16, [.int .u32 0, .nilp], .struct [(0, 1, false), (1, 1, false)]⟩ (ρ x) i).map fun v => (v, h) := stepE_fieldAddr ti78
@[simp] theorem fae100 : stepE call Tryz.prog ⟨d, .fieldAddr 100 x i, t, p, a, g⟩ ρ h = (fieldAddrV ⟨2, true, 24, [.str [], .int .i64 0], .struct [(0, 1, false), (1, 1, false)]⟩ (ρ x) i).map fun v => (v, h) := stepE_fieldAddr ti100
@[simp] theorem fae118 : stepE call Tryz.prog ⟨d, .fieldAddr 118 x i, t, p, a, g⟩ ρ h = (fieldAddrV ⟨2, true, 32, [.int .i64 0, .nils], .struct [(0, 1, false), (1, 1, false)]⟩ (ρ x) i).map fun v => (v, h) := stepE_fieldAddr ti118
@[simp] theorem fae136 : stepE call Tryz.prog ⟨d, .fieldAddr 136 x i, t, p, a, g⟩ ρ h = (fieldAddrV ⟨2, true, 24, [.str [], .int .i64 0], .struct [(0, 1, false), (1, 1, false)]⟩ (ρ x) i).map fun v => (v, h) := stepE_fieldAddr ti136
@[simp] theorem fae143 : stepE call Tryz.prog ⟨d, .fieldAddr 143 x i, t, p, a, g⟩ ρ h = (fieldAddrV ⟨2, true, 16, [.int .i64 0, .int .i64 0], .struct [(0, 1, false), (1, 1, false)]⟩ (ρ x) i).map fun v => (v, h) := stepE_fieldAddr ti143
@[simp] theorem cve3_5 : stepE call Tryz.prog ⟨d, .convert 3 5 x, t, p, a, g⟩ ρ h = (convV .u8 (ρ x)).map fun v => (v, h) := stepE_conv Tryz.underlying3 Tryz.underlying5
@[simp] theorem cve3_81 : stepE call Tryz.prog ⟨d, .convert 3 81 x, t, p, a, g⟩ ρ h = (convV .u64 (ρ x)).map fun v => (v, h) := stepE_conv Tryz.underlying3 Tryz.underlying81
@[simp] theorem cve3_105 : stepE call Tryz.prog ⟨d, .convert 3 105 x, t, p, a, g⟩ ρ h = (convV .u64 (ρ x)).map fun v => (v, h) := stepE_conv Tryz.underlying3 Tryz.underlying105
@[simp] theorem cve5_22 : stepE call Tryz.prog ⟨d, .convert 5 22 x, t, p, a, g⟩ ρ h = (convV .u32 (ρ x)).map fun v => (v, h) := stepE_conv Tryz.underlying5 Tryz.underlying22
@[simp] theorem cve5_81 : stepE call Tryz.prog ⟨d, .convert 5 81 x, t, p, a, g⟩ ρ h = (convV .u64 (ρ x)).map fun v => (v, h) := stepE_conv Tryz.underlying5 Tryz.underlying81
@[simp] theorem cve22_3 : stepE call Tryz.prog ⟨d, .convert 22 3 x, t, p, a, g⟩ ρ h = (convV .i64 (ρ x)).map fun v => (v, h) := stepE_conv Tryz.underlying22 Tryz.underlying3
@[simp] theorem cve22_5 : stepE call Tryz.prog ⟨d, .convert 22 5 x, t, p, a, g⟩ ρ h = (convV .u8 (ρ x)).map fun v => (v, h) := stepE_conv Tryz.underlying22 Tryz.underlying5
@[simp] theorem cve22_81 : stepE call Tryz.prog ⟨d, .convert 22 81 x, t, p, a, g⟩ ρ h = (convV .u64 (ρ x)).map fun v => (v, h) := stepE_conv Tryz.underlying22 Tryz.underlying81
@[simp] theorem cve81_3 : stepE call Tryz.prog ⟨d, .convert 81 3 x, t, p, a, g⟩ ρ h = (convV .i64 (ρ x)).map fun v => (v, h) := stepE_conv Tryz.underlying81 Tryz.underlying3
@[simp] theorem cve81_5 : stepE call Tryz.prog ⟨d, .convert 81 5 x, t, p, a, g⟩ ρ h = (convV .u8 (ρ x)).map fun v => (v, h) := stepE_conv Tryz.underlying81 Tryz.underlying5
@[simp] theorem cve81_22 : stepE call Tryz.prog ⟨d, .convert 81 22 x, t, p, a, g⟩ ρ h = (convV .u32 (ρ x)).map fun v => (v, h) := stepE_conv Tryz.underlying81 Tryz.underlying22
@[simp, simp ↓] theorem st3 : Ok (Hl.step call Tryz.prog ⟨d, .store 3 x y, t, p, a, g⟩ ρ h) Q ↔ Ok (storeV 1 h (ρ y) (ρ x)) fun h' => Q (.undef, h') := do_store' ti3
@[simp, simp ↓] theorem st5 : Ok (Hl.step call Tryz.prog ⟨d, .store 5 x y, t, p, a, g⟩ ρ h) Q ↔ Ok (storeV 1 h (ρ y) (ρ x)) fun h' => Q (.undef, h') := do_store' ti5
@[simp, simp ↓] theorem st9 : Ok (Hl.step call Tryz.prog ⟨d, .store 9 x y, t, p, a, g⟩ ρ h) Q ↔ Ok (storeV 1 h (ρ y) (ρ x)) fun h' => Q (.undef, h') := do_store' ti9
@[simp, simp ↓] theorem st22 : Ok (Hl.step call Tryz.prog ⟨d, .store 22 x y, t, p, a, g⟩ ρ h) Q ↔ Ok (storeV 1 h (ρ y) (ρ x)) fun h' => Q (.undef, h') := do_store' ti22
@[simp, simp ↓] theorem st25 : Ok (Hl.step call Tryz.prog ⟨d, .store 25 x y, t, p, a, g⟩ ρ h) Q ↔ Ok (storeV 1 h (ρ y) (ρ x)) fun h' => Q (.undef, h') := do_store' ti25
@[simp, simp ↓] theorem st27 : Ok (Hl.step call Tryz.prog ⟨d, .store 27 x y, t, p, a, g⟩ ρ h) Q ↔ Ok (storeV 1 h (ρ y) (ρ x)) fun h' => Q (.undef, h') := do_store' ti27
@[simp, simp ↓] theorem st28 : Ok (Hl.step call Tryz.prog ⟨d, .store 28 x y, t, p, a, g⟩ ρ h) Q ↔ Ok (storeV 1 h (ρ y) (ρ x)) fun h' => Q (.undef, h') := do_store' ti28
@[simp, simp ↓] theorem st29 : Ok (Hl.step call Tryz.prog ⟨d, .store 29 x y, t, p, a, g⟩ ρ h) Q ↔ Ok (storeV 1 h (ρ y) (ρ x)) fun h' => Q (.undef, h') := do_store' ti29
@[simp, simp ↓] theorem st30 : Ok (Hl.step call Tryz.prog ⟨d, .store 30 x y, t, p, a, g⟩ ρ h) Q ↔ Ok (storeV 1 h (ρ y) (ρ x)) fun h' => Q (.undef, h') := do_store' ti30
@[simp, simp ↓] theorem st32 : Ok (Hl.step call Tryz.prog ⟨d, .store 32 x y, t, p, a, g⟩ ρ h) Q ↔ Ok (storeV 15 h (ρ y) (ρ x)) fun h' => Q (.undef, h') := do_store' ti32
@[simp, simp ↓] theorem st33 : Ok (Hl.step call Tryz.prog ⟨d, .store 33 x y, t, p, a, g⟩ ρ h) Q ↔ Ok (storeV 1 h (ρ y) (ρ x)) fun h' => Q (.undef, h') := do_store' ti33
@[simp, simp ↓] theorem st35 : Ok (Hl.step call Tryz.prog ⟨d, .store 35 x y, t, p, a, g⟩ ρ h) Q ↔ Ok (storeV 4 h (ρ y) (ρ x)) fun h' => Q (.undef, h') := do_store' ti35
@[simp, simp ↓] theorem st37 : Ok (Hl.step call Tryz.prog ⟨d, .store 37 x y, t, p, a, g⟩ ρ h) Q ↔ Ok (storeV 3 h (ρ y) (ρ x)) fun h' => Q (.undef, h') := do_store' ti37
@[simp, simp ↓] theorem st44 : Ok (Hl.step call Tryz.prog ⟨d, .store 44 x y, t, p, a, g⟩ ρ h) Q ↔ Ok (storeV 2 h (ρ y) (ρ x)) fun h' => Q (.undef, h') := do_store' ti44
@[simp, simp ↓] theorem st47 : Ok (Hl.step call Tryz.prog ⟨d, .store 47 x y, t, p, a, g⟩ ρ h) Q ↔ Ok (storeV 2 h (ρ y) (ρ x)) fun h' => Q (.undef, h') := do_store' ti47
@[simp, simp ↓] theorem st51 : Ok (Hl.step call Tryz.prog ⟨d, .store 51 x y, t, p, a, g⟩ ρ h) Q ↔ Ok (storeV 1 h (ρ y) (ρ x)) fun h' => Q (.undef, h') := do_store' ti51
@[simp, simp ↓] theorem st53 : Ok (Hl.step call Tryz.prog ⟨d, .store 53 x y, t, p, a, g⟩ ρ h) Q ↔ Ok (storeV 9 h (ρ y) (ρ x)) fun h' => Q (.undef, h') := do_store' ti53
@[simp, simp ↓] theorem st56 : Ok (Hl.step call Tryz.prog ⟨d, .store 56 x y, t, p, a, g⟩ ρ h) Q ↔ Ok (storeV 7 h (ρ y) (ρ x)) fun h' => Q (.undef, h') := do_store' ti56
@[simp, simp ↓] theorem st64 : Ok (Hl.step call Tryz.prog ⟨d, .store 64 x y, t, p, a, g⟩ ρ h) Q ↔ Ok (storeV 2 h (ρ y) (ρ x)) fun h' => Q (.undef, h') := do_store' ti64
@[simp, simp ↓] theorem st83 : Ok (Hl.step call Tryz.prog ⟨d, .store 83 x y, t, p, a, g⟩ ρ h) Q ↔ Ok (storeV 1 h (ρ y) (ρ x)) fun h' => Q (.undef, h') := do_store' ti83
@[simp, simp ↓] theorem st100 : Ok (Hl.step call Tryz.prog ⟨d, .store 100 x y, t, p, a, g⟩ ρ h) Q ↔ Ok (storeV 2 h (ρ y) (ρ x)) fun h' => Q (.undef, h') := do_store' ti100
@[simp, simp ↓] theorem st143 : Ok (Hl.step call Tryz.prog ⟨d, .store 143 x y, t, p, a, g⟩ ρ h) Q ↔ Ok (storeV 2 h (ρ y) (ρ x)) fun h' => Q (.undef, h') := do_store' ti143
@[simp, simp ↓] theorem st152 : Ok (Hl.step call Tryz.prog ⟨d, .store 152 x y, t, p, a, g⟩ ρ h) Q ↔ Ok (storeV 4 h (ρ y) (ρ x)) fun h' => Q (.undef, h') := do_store' ti152
@[simp, simp ↓] theorem al32 : Ok (Hl.step call Tryz.prog ⟨d, .alloc 32, t, p, a, g⟩ ρ h) Q ↔ Q (.ptr h.size 0 0 15, h.new [.int .i64 0, .int .i64 0, .int .u32 0, .int .i64 0, .int .i64 0, .int .u32 0, .str [], .int .u32 0, .int .u32 0, .int .i64 0, .int .i64 0, .nils, .nils, .nils, .nils]) := (do_alloc' ti32).trans (by simp)
@[simp, simp ↓] theorem al35 : Ok (Hl.step call Tryz.prog ⟨d, .alloc 35, t, p, a, g⟩ ρ h) Q ↔ Q (.ptr h.size 0 0 4, h.new [.int .i64 0, .int .i64 0, .int .u32 0, .nils]) := (do_alloc' ti35).trans (by simp)
@[simp, simp ↓] theorem al37 : Ok (Hl.step call Tryz.prog ⟨d, .alloc 37, t, p, a, g⟩ ρ h) Q ↔ Q (.ptr h.size 0 0 3, h.new [.int .u32 0, .int .u32 0, .str []]) := (do_alloc' ti37).trans (by simp)
@[simp, simp ↓] theorem al44 : Ok (Hl.step call Tryz.prog ⟨d, .alloc 44, t, p, a, g⟩ ρ h) Q ↔ Q (.ptr h.size 0 0 2, h.new [.int .i64 0, .str []]) := (do_alloc' ti44).trans (by simp)
@[simp, simp ↓] theorem al47 : Ok (Hl.step call Tryz.prog ⟨d, .alloc 47, t, p, a, g⟩ ρ h) Q ↔ Q (.ptr h.size 0 0 2, h.new [.int .i64 0, .str []]) := (do_alloc' ti47).trans (by simp)
@[simp, simp ↓] theorem al53 : Ok (Hl.step call Tryz.prog ⟨d, .alloc 53, t, p, a, g⟩ ρ h) Q ↔ Q (.ptr h.size 0 0 9, h.new [.int .i64 0, .int .u32 0, .int .u32 0, .int .i64 0, .int .i64 0, .int .u32 0, .nils, .int .i64 0, .int .i64 0]) := (do_alloc' ti53).trans (by simp)
@[simp, simp ↓] theorem al56 : Ok (Hl.step call Tryz.prog ⟨d, .alloc 56, t, p, a, g⟩ ρ h) Q ↔ Q (.ptr h.size 0 0 7, h.new [.int .u32 0, .int .i64 0, .int .u32 0, .int .i64 0, .int .u32 0, .int .u32 0, .int .i64 0]) := (do_alloc' ti56).trans (by simp)
@[simp, simp ↓] theorem al64 : Ok (Hl.step call Tryz.prog ⟨d, .alloc 64, t, p, a, g⟩ ρ h) Q ↔ Q (.ptr h.size 0 0 2, h.new [.int .i64 0, .str []]) := (do_alloc' ti64).trans (by simp)
@[simp, simp ↓] theorem al100 : Ok (Hl.step call Tryz.prog ⟨d, .alloc 100, t, p, a, g⟩ ρ h) Q ↔ Q (.ptr h.size 0 0 2, h.new [.str [], .int .i64 0]) := (do_alloc' ti100).trans (by simp)
@[simp, simp ↓] theorem al143 : Ok (Hl.step call Tryz.prog ⟨d, .alloc 143, t, p, a, g⟩ ρ h) Q ↔ Q (.ptr h.size 0 0 2, h.new [.int .i64 0, .int .i64 0]) := (do_alloc' ti143).trans (by simp)
@[simp, simp ↓] theorem al152 : Ok (Hl.step call Tryz.prog ⟨d, .alloc 152, t, p, a, g⟩ ρ h) Q ↔ Q (.ptr h.size 0 0 4, h.new [.int .u32 0, .int .i64 0, .int .i64 0, .int .u32 0]) := (do_alloc' ti152).trans (by simp)
@[simp, simp ↓] theorem sli9 {lo hi : Option Operand} : Ok (Hl.step call Tryz.prog ⟨d, .slice 9 x lo hi none, t, p, a, g⟩ ρ h) Q ↔ Ok (sliceV ⟨1, false, 16, [.str []], .str⟩ (ρ x) (lo.map ρ) (hi.map ρ)) fun v => Q (v, h) := do_slice' ti9
@[simp, simp ↓] theorem sli29 {lo hi : Option Operand} : Ok (Hl.step call Tryz.prog ⟨d, .slice 29 x lo hi none, t, p, a, g⟩ ρ h) Q ↔ Ok (sliceV ⟨1, false, 24, [.nils], .slice 143 2 16⟩ (ρ x) (lo.map ρ) (hi.map ρ)) fun v => Q (v, h) := do_slice' ti29
@[simp, simp ↓] theorem sli30 {lo hi : Option Operand} : Ok (Hl.step call Tryz.prog ⟨d, .slice 30 x lo hi none, t, p, a, g⟩ ρ h) Q ↔ Ok (sliceV ⟨1, false, 24, [.nils], .slice 22 1 4⟩ (ρ x) (lo.map ρ) (hi.map ρ)) fun v => Q (v, h) := do_slice' ti30
@[simp, simp ↓] theorem sli51 {lo hi : Option Operand} : Ok (Hl.step call Tryz.prog ⟨d, .slice 51 x lo hi none, t, p, a, g⟩ ρ h) Q ↔ Ok (sliceV ⟨1, false, 24, [.nils], .slice 56 7 48⟩ (ρ x) (lo.map ρ) (hi.map ρ)) fun v => Q (v, h) := do_slice' ti51
@[simp, simp ↓] theorem fa32 : Ok (Hl.step call Tryz.prog ⟨d, .fieldAddr 32 x i, t, p, a, g⟩ ρ h) Q ↔ Ok (fieldAddrV ⟨15, true, 184, [.int .i64 0, .int .i64 0, .int .u32 0, .int .i64 0, .int .i64 0, .int .u32 0, .str [], .int .u32 0, .int .u32 0, .int .i64 0, .int .i64 0, .nils, .nils, .nils, .nils], .struct [(0, 1, false), (1, 1, false), (2, 1, false), (3, 1, false), (4, 1, false), (5, 1, false), (6, 1, false), (7, 1, false), (8, 1, false), (9, 1, false), (10, 1, false), (11, 1, false), (12, 1, false), (13, 1, false), (14, 1, false)]⟩ (ρ x) i) fun v => Q (v, h) := do_fieldAddr' ti32
@[simp, simp ↓] theorem fa35 : Ok (Hl.step call Tryz.prog ⟨d, .fieldAddr 35 x i, t, p, a, g⟩ ρ h) Q ↔ Ok (fieldAddrV ⟨4, true, 48, [.int .i64 0, .int .i64 0, .int .u32 0, .nils], .struct [(0, 1, false), (1, 1, false), (2, 1, false), (3, 1, false)]⟩ (ρ x) i) fun v => Q (v, h) := do_fieldAddr' ti35
@[simp, simp ↓] theorem fa37 : Ok (Hl.step call Tryz.prog ⟨d, .fieldAddr 37 x i, t, p, a, g⟩ ρ h) Q ↔ Ok (fieldAddrV ⟨3, true, 24, [.int .u32 0, .int .u32 0, .str []], .struct [(0, 1, false), (1, 1, false), (2, 1, false)]⟩ (ρ x) i) fun v => Q (v, h) := do_fieldAddr' ti37
@[simp, simp ↓] theorem fa44 : Ok (Hl.step call Tryz.prog ⟨d, .fieldAddr 44 x i, t, p, a, g⟩ ρ h) Q ↔ Ok (fieldAddrV ⟨2, true, 24, [.int .i64 0, .str []], .struct [(0, 1, false), (1, 1, false)]⟩ (ρ x) i) fun v => Q (v, h) := do_fieldAddr' ti44
@[simp, simp ↓] theorem fa47 : Ok (Hl.step call Tryz.prog ⟨d, .fieldAddr 47 x i, t, p, a, g⟩ ρ h) Q ↔ Ok (fieldAddrV ⟨2, true, 24, [.int .i64 0, .str []], .struct [(0, 1, false), (1, 1, false)]⟩ (ρ x) i) fun v => Q (v, h) := do_fieldAddr' ti47
@[simp, simp ↓] theorem fa53 : Ok (Hl.step call Tryz.prog ⟨d, .fieldAddr 53 x i, t, p, a, g⟩ ρ h) Q ↔ Ok (fieldAddrV ⟨9, true, 80, [.int .i64 0, .int .u32 0, .int .u32 0, .int .i64 0, .int .i64 0, .int .u32 0, .nils, .int .i64 0, .int .i64 0], .struct [(0, 1, false), (1, 1, false), (2, 1, false), (3, 4, true), (7, 1, false), (8, 1, false)]⟩ (ρ x) i) fun v => Q (v, h) := do_fieldAddr' ti53
@[simp, simp ↓] theorem fa56 : Ok (Hl.step call Tryz.prog ⟨d, .fieldAddr 56 x i, t, p, a, g⟩ ρ h) Q ↔ Ok (fieldAddrV ⟨7, true, 48, [.int .u32 0, .int .i64 0, .int .u32 0, .int .i64 0, .int .u32 0, .int .u32 0, .int .i64 0], .struct [(0, 1, false), (1, 1, false), (2, 1, false), (3, 1, false), (4, 1, false), (5, 1, false), (6, 1, false)]⟩ (ρ x) i) fun v => Q (v, h) := do_fieldAddr' ti56
@[simp, simp ↓] theorem fa64 : Ok (Hl.step call Tryz.prog ⟨d, .fieldAddr 64 x i, t, p, a, g⟩ ρ h) Q ↔ Ok (fieldAddrV ⟨2, true, 24, [.int .i64 0, .str []], .struct [(0, 1, false), (1, 1, false)]⟩ (ρ x) i) fun v => Q (v, h) := do_fieldAddr' ti64
@[simp, simp ↓] theorem fa78 : Ok (Hl.step call Tryz.prog ⟨d, .fieldAddr 78 x i, t, p, a, g⟩ ρ h) Q ↔ Ok (fieldAddrV ⟨2, true, 16, [.int .u32 0, .nilp], .struct [(0, 1, false), (1, 1, false)]⟩ (ρ x) i) fun v => Q (v, h) := do_fieldAddr' ti78
@[simp, simp ↓] theorem fa100 : Ok (Hl.step call Tryz.prog ⟨d, .fieldAddr 100 x i, t, p, a, g⟩ ρ h) Q ↔ Ok (fieldAddrV ⟨2, true, 24, [.str [], .int .i64 0], .struct [(0, 1, false), (1, 1, false)]⟩ (ρ x) i) fun v => Q (v, h) := do_fieldAddr' ti100
@[simp, simp ↓] theorem fa118 : Ok (Hl.step call Tryz.prog ⟨d, .fieldAddr 118 x i, t, p, a, g⟩ ρ h) Q ↔ Ok (fieldAddrV ⟨2, true, 32, [.int .i64 0, .nils], .struct [(0, 1, false), (1, 1, false)]⟩ (ρ x) i) fun v => Q (v, h) := do_fieldAddr' ti118
@[simp, simp ↓] theorem fa136 : Ok (Hl.step call Tryz.prog ⟨d, .fieldAddr 136 x i, t, p, a, g⟩ ρ h) Q ↔ Ok (fieldAddrV ⟨2, true, 24, [.str [], .int .i64 0], .struct [(0, 1, false), (1, 1, false)]⟩ (ρ x) i) fun v => Q (v, h) := do_fieldAddr' ti136
@[simp, simp ↓] theorem fa143 : Ok (Hl.step call Tryz.prog ⟨d, .fieldAddr 143 x i, t, p, a, g⟩ ρ h) Q ↔ Ok (fieldAddrV ⟨2, true, 16, [.int .i64 0, .int .i64 0], .struct [(0, 1, false), (1, 1, false)]⟩ (ρ x) i) fun v => Q (v, h) := do_fieldAddr' ti143
@[simp, simp ↓] theorem fi56 : Ok (Hl.step call Tryz.prog ⟨d, .field 56 x i, t, p, a, g⟩ ρ h) Q ↔ Ok (fieldV ⟨7, true, 48, [.int .u32 0, .int .i64 0, .int .u32 0, .int .i64 0, .int .u32 0, .int .u32 0, .int .i64 0], .struct [(0, 1, false), (1, 1, false), (2, 1, false), (3, 1, false), (4, 1, false), (5, 1, false), (6, 1, false)]⟩ (ρ x) i) fun v => Q (v, h) := do_field' ti56
@[simp, simp ↓] theorem ia27 : Ok (Hl.step call Tryz.prog ⟨d, .indexAddr 27 x y, t, p, a, g⟩ ρ h) Q ↔ Ok (indexAddrV ⟨1, false, 24, [.nils], .slice 47 2 24⟩ (ρ x) (ρ y)) fun v => Q (v, h) := do_indexAddr' ti27
@[simp, simp ↓] theorem ia28 : Ok (Hl.step call Tryz.prog ⟨d, .indexAddr 28 x y, t, p, a, g⟩ ρ h) Q ↔ Ok (indexAddrV ⟨1, false, 24, [.nils], .slice 44 2 24⟩ (ρ x) (ρ y)) fun v => Q (v, h) := do_indexAddr' ti28
@[simp, simp ↓] theorem ia29 : Ok (Hl.step call Tryz.prog ⟨d, .indexAddr 29 x y, t, p, a, g⟩ ρ h) Q ↔ Ok (indexAddrV ⟨1, false, 24, [.nils], .slice 143 2 16⟩ (ρ x) (ρ y)) fun v => Q (v, h) := do_indexAddr' ti29
@[simp, simp ↓] theorem ia30 : Ok (Hl.step call Tryz.prog ⟨d, .indexAddr 30 x y, t, p, a, g⟩ ρ h) Q ↔ Ok (indexAddrV ⟨1, false, 24, [.nils], .slice 22 1 4⟩ (ρ x) (ρ y)) fun v => Q (v, h) := do_indexAddr' ti30
@[simp, simp ↓] theorem ia33 : Ok (Hl.step call Tryz.prog ⟨d, .indexAddr 33 x y, t, p, a, g⟩ ρ h) Q ↔ Ok (indexAddrV ⟨1, false, 24, [.nils], .slice 32 15 184⟩ (ρ x) (ρ y)) fun v => Q (v, h) := do_indexAddr' ti33
@[simp, simp ↓] theorem ia50 : Ok (Hl.step call Tryz.prog ⟨d, .indexAddr 50 x y, t, p, a, g⟩ ρ h) Q ↔ Ok (indexAddrV ⟨1, false, 24, [.nils], .slice 53 9 80⟩ (ρ x) (ρ y)) fun v => Q (v, h) := do_indexAddr' ti50
@[simp, simp ↓] theorem ia51 : Ok (Hl.step call Tryz.prog ⟨d, .indexAddr 51 x y, t, p, a, g⟩ ρ h) Q ↔ Ok (indexAddrV ⟨1, false, 24, [.nils], .slice 56 7 48⟩ (ρ x) (ρ y)) fun v => Q (v, h) := do_indexAddr' ti51
@[simp, simp ↓] theorem ia62 : Ok (Hl.step call Tryz.prog ⟨d, .indexAddr 62 x y, t, p, a, g⟩ ρ h) Q ↔ Ok (indexAddrV ⟨1, false, 24, [.nils], .slice 64 2 24⟩ (ρ x) (ρ y)) fun v => Q (v, h) := do_indexAddr' ti62
@[simp, simp ↓] theorem ia106 : Ok (Hl.step call Tryz.prog ⟨d, .indexAddr 106 x y, t, p, a, g⟩ ρ h) Q ↔ Ok (indexAddrV ⟨1, false, 24, [.nils], .slice 5 1 1⟩ (ρ x) (ρ y)) fun v => Q (v, h) := do_indexAddr' ti106
@[simp, simp ↓] theorem ix9 : Ok (Hl.step call Tryz.prog ⟨d, .index 9 x y, t, p, a, g⟩ ρ h) Q ↔ Ok (indexV ⟨1, false, 16, [.str []], .str⟩ (ρ x) (ρ y)) fun v => Q (v, h) := do_index' ti9
@[simp, simp ↓] theorem bu32 {ps : Array (Nat × Operand)} : Ok (Hl.step call Tryz.prog ⟨d, .build 32 ps, t, p, a, g⟩ ρ h) Q ↔ ps.toList.any (fun p => (ρ p.2).isU) = false ∧ Ok (pureOp.fillF [(0, 1, false), (1, 1, false), (2, 1, false), (3, 1, false), (4, 1, false), (5, 1, false), (6, 1, false), (7, 1, false), (8, 1, false), (9, 1, false), (10, 1, false), (11, 1, false), (12, 1, false), (13, 1, false), (14, 1, false)] [.int .i64 0, .int .i64 0, .int .u32 0, .int .i64 0, .int .i64 0, .int .u32 0, .str [], .int .u32 0, .int .u32 0, .int .i64 0, .int .i64 0, .nils, .nils, .nils, .nils] (ps.toList.map fun p => (p.1, ρ p.2))) fun l => Q (.agg l, h) := do_build' ti32
@[simp, simp ↓] theorem bu35 {ps : Array (Nat × Operand)} : Ok (Hl.step call Tryz.prog ⟨d, .build 35 ps, t, p, a, g⟩ ρ h) Q ↔ ps.toList.any (fun p => (ρ p.2).isU) = false ∧ Ok (pureOp.fillF [(0, 1, false), (1, 1, false), (2, 1, false), (3, 1, false)] [.int .i64 0, .int .i64 0, .int .u32 0, .nils] (ps.toList.map fun p => (p.1, ρ p.2))) fun l => Q (.agg l, h) := do_build' ti35
@[simp, simp ↓] theorem bu37 {ps : Array (Nat × Operand)} : Ok (Hl.step call Tryz.prog ⟨d, .build 37 ps, t, p, a, g⟩ ρ h) Q ↔ ps.toList.any (fun p => (ρ p.2).isU) = false ∧ Ok (pureOp.fillF [(0, 1, false), (1, 1, false), (2, 1, false)] [.int .u32 0, .int .u32 0, .str []] (ps.toList.map fun p => (p.1, ρ p.2))) fun l => Q (.agg l, h) := do_build' ti37
@[simp, simp ↓] theorem bu44 {ps : Array (Nat × Operand)} : Ok (Hl.step call Tryz.prog ⟨d, .build 44 ps, t, p, a, g⟩ ρ h) Q ↔ ps.toList.any (fun p => (ρ p.2).isU) = false ∧ Ok (pureOp.fillF [(0, 1, false), (1, 1, false)] [.int .i64 0, .str []] (ps.toList.map fun p => (p.1, ρ p.2))) fun l => Q (.agg l, h) := do_build' ti44
@[simp, simp ↓] theorem bu47 {ps : Array (Nat × Operand)} : Ok (Hl.step call Tryz.prog ⟨d, .build 47 ps, t, p, a, g⟩ ρ h) Q ↔ ps.toList.any (fun p => (ρ p.2).isU) = false ∧ Ok (pureOp.fillF [(0, 1, false), (1, 1, false)] [.int .i64 0, .str []] (ps.toList.map fun p => (p.1, ρ p.2))) fun l => Q (.agg l, h) := do_build' ti47
@[simp, simp ↓] theorem bu56 {ps : Array (Nat × Operand)} : Ok (Hl.step call Tryz.prog ⟨d, .build 56 ps, t, p, a, g⟩ ρ h) Q ↔ ps.toList.any (fun p => (ρ p.2).isU) = false ∧ Ok (pureOp.fillF [(0, 1, false), (1, 1, false), (2, 1, false), (3, 1, false), (4, 1, false), (5, 1, false), (6, 1, false)] [.int .u32 0, .int .i64 0, .int .u32 0, .int .i64 0, .int .u32 0, .int .u32 0, .int .i64 0] (ps.toList.map fun p => (p.1, ρ p.2))) fun l => Q (.agg l, h) := do_build' ti56
@[simp, simp ↓] theorem bu64 {ps : Array (Nat × Operand)} : Ok (Hl.step call Tryz.prog ⟨d, .build 64 ps, t, p, a, g⟩ ρ h) Q ↔ ps.toList.any (fun p => (ρ p.2).isU) = false ∧ Ok (pureOp.fillF [(0, 1, false), (1, 1, false)] [.int .i64 0, .str []] (ps.toList.map fun p => (p.1, ρ p.2))) fun l => Q (.agg l, h) := do_build' ti64
@[simp, simp ↓] theorem bu78 {ps : Array (Nat × Operand)} : Ok (Hl.step call Tryz.prog ⟨d, .build 78 ps, t, p, a, g⟩ ρ h) Q ↔ ps.toList.any (fun p => (ρ p.2).isU) = false ∧ Ok (pureOp.fillF [(0, 1, false), (1, 1, false)] [.int .u32 0, .nilp] (ps.toList.map fun p => (p.1, ρ p.2))) fun l => Q (.agg l, h) := do_build' ti78
@[simp, simp ↓] theorem bu100 {ps : Array (Nat × Operand)} : Ok (Hl.step call Tryz.prog ⟨d, .build 100 ps, t, p, a, g⟩ ρ h) Q ↔ ps.toList.any (fun p => (ρ p.2).isU) = false ∧ Ok (pureOp.fillF [(0, 1, false), (1, 1, false)] [.str [], .int .i64 0] (ps.toList.map fun p => (p.1, ρ p.2))) fun l => Q (.agg l, h) := do_build' ti100
@[simp, simp ↓] theorem bu118 {ps : Array (Nat × Operand)} : Ok (Hl.step call Tryz.prog ⟨d, .build 118 ps, t, p, a, g⟩ ρ h) Q ↔ ps.toList.any (fun p => (ρ p.2).isU) = false ∧ Ok (pureOp.fillF [(0, 1, false), (1, 1, false)] [.int .i64 0, .nils] (ps.toList.map fun p => (p.1, ρ p.2))) fun l => Q (.agg l, h) := do_build' ti118
@[simp, simp ↓] theorem bu136 {ps : Array (Nat × Operand)} : Ok (Hl.step call Tryz.prog ⟨d, .build 136 ps, t, p, a, g⟩ ρ h) Q ↔ ps.toList.any (fun p => (ρ p.2).isU) = false ∧ Ok (pureOp.fillF [(0, 1, false), (1, 1, false)] [.str [], .int .i64 0] (ps.toList.map fun p => (p.1, ρ p.2))) fun l => Q (.agg l, h) := do_build' ti136
@[simp, simp ↓] theorem bu143 {ps : Array (Nat × Operand)} : Ok (Hl.step call Tryz.prog ⟨d, .build 143 ps, t, p, a, g⟩ ρ h) Q ↔ ps.toList.any (fun p => (ρ p.2).isU) = false ∧ Ok (pureOp.fillF [(0, 1, false), (1, 1, false)] [.int .i64 0, .int .i64 0] (ps.toList.map fun p => (p.1, ρ p.2))) fun l => Q (.agg l, h) := do_build' ti143
@[simp, simp ↓] theorem bu152 {ps : Array (Nat × Operand)} : Ok (Hl.step call Tryz.prog ⟨d, .build 152 ps, t, p, a, g⟩ ρ h) Q ↔ ps.toList.any (fun p => (ρ p.2).isU) = false ∧ Ok (pureOp.fillF [(0, 1, false), (1, 1, false), (2, 1, false), (3, 1, false)] [.int .u32 0, .int .i64 0, .int .i64 0, .int .u32 0] (ps.toList.map fun p => (p.1, ρ p.2))) fun l => Q (.agg l, h) := do_build' ti152
@[simp, simp ↓] theorem bs27 {n : Nat} {ps : Array (Nat × Operand)} : Ok (Hl.step call Tryz.prog ⟨d, .buildSlice 27 n ps, t, p, a, g⟩ ρ h) Q ↔ (ps.toList.any (fun p => (ρ p.2).isU) = false ∧ n * 2 ≤ 16777216) ∧ Ok (pureOp.fillA n 2 (zeros [.int .i64 0, .str []] n) (ps.toList.map fun p => (p.1, ρ p.2))) fun cells => cells.all V.cellOk = true ∧ Q (.sl h.size 0 n 0 2 false, h.new cells) := (do_buildSlice' ti27 ti47).trans (by simp)
@[simp, simp ↓] theorem bs28 {n : Nat} {ps : Array (Nat × Operand)} : Ok (Hl.step call Tryz.prog ⟨d, .buildSlice 28 n ps, t, p, a, g⟩ ρ h) Q ↔ (ps.toList.any (fun p => (ρ p.2).isU) = false ∧ n * 2 ≤ 16777216) ∧ Ok (pureOp.fillA n 2 (zeros [.int .i64 0, .str []] n) (ps.toList.map fun p => (p.1, ρ p.2))) fun cells => cells.all V.cellOk = true ∧ Q (.sl h.size 0 n 0 2 false, h.new cells) := (do_buildSlice' ti28 ti44).trans (by simp)
@[simp, simp ↓] theorem bs29 {n : Nat} {ps : Array (Nat × Operand)} : Ok (Hl.step call Tryz.prog ⟨d, .buildSlice 29 n ps, t, p, a, g⟩ ρ h) Q ↔ (ps.toList.any (fun p => (ρ p.2).isU) = false ∧ n * 2 ≤ 16777216) ∧ Ok (pureOp.fillA n 2 (zeros [.int .i64 0, .int .i64 0] n) (ps.toList.map fun p => (p.1, ρ p.2))) fun cells => cells.all V.cellOk = true ∧ Q (.sl h.size 0 n 0 2 false, h.new cells) := (do_buildSlice' ti29 ti143).trans (by simp)
@[simp, simp ↓] theorem bs30 {n : Nat} {ps : Array (Nat × Operand)} : Ok (Hl.step call Tryz.prog ⟨d, .buildSlice 30 n ps, t, p, a, g⟩ ρ h) Q ↔ (ps.toList.any (fun p => (ρ p.2).isU) = false ∧ n * 1 ≤ 16777216) ∧ Ok (pureOp.fillA n 1 (zeros [.int .u32 0] n) (ps.toList.map fun p => (p.1, ρ p.2))) fun cells => cells.all V.cellOk = true ∧ Q (.sl h.size 0 n 0 1 false, h.new cells) := (do_buildSlice' ti30 ti22).trans (by simp)
@[simp, simp ↓] theorem bs33 {n : Nat} {ps : Array (Nat × Operand)} : Ok (Hl.step call Tryz.prog ⟨d, .buildSlice 33 n ps, t, p, a, g⟩ ρ h) Q ↔ (ps.toList.any (fun p => (ρ p.2).isU) = false ∧ n * 15 ≤ 16777216) ∧ Ok (pureOp.fillA n 15 (zeros [.int .i64 0, .int .i64 0, .int .u32 0, .int .i64 0, .int .i64 0, .int .u32 0, .str [], .int .u32 0, .int .u32 0, .int .i64 0, .int .i64 0, .nils, .nils, .nils, .nils] n) (ps.toList.map fun p => (p.1, ρ p.2))) fun cells => cells.all V.cellOk = true ∧ Q (.sl h.size 0 n 0 15 false, h.new cells) := (do_buildSlice' ti33 ti32).trans (by simp)
@[simp, simp ↓] theorem bs51 {n : Nat} {ps : Array (Nat × Operand)} : Ok (Hl.step call Tryz.prog ⟨d, .buildSlice 51 n ps, t, p, a, g⟩ ρ h) Q ↔ (ps.toList.any (fun p => (ρ p.2).isU) = false ∧ n * 7 ≤ 16777216) ∧ Ok (pureOp.fillA n 7 (zeros [.int .u32 0, .int .i64 0, .int .u32 0, .int .i64 0, .int .u32 0, .int .u32 0, .int .i64 0] n) (ps.toList.map fun p => (p.1, ρ p.2))) fun cells => cells.all V.cellOk = true ∧ Q (.sl h.size 0 n 0 7 false, h.new cells) := (do_buildSlice' ti51 ti56).trans (by simp)
@[simp, simp ↓] theorem bs62 {n : Nat} {ps : Array (Nat × Operand)} : Ok (Hl.step call Tryz.prog ⟨d, .buildSlice 62 n ps, t, p, a, g⟩ ρ h) Q ↔ (ps.toList.any (fun p => (ρ p.2).isU) = false ∧ n * 2 ≤ 16777216) ∧ Ok (pureOp.fillA n 2 (zeros [.int .i64 0, .str []] n) (ps.toList.map fun p => (p.1, ρ p.2))) fun cells => cells.all V.cellOk = true ∧ Q (.sl h.size 0 n 0 2 false, h.new cells) := (do_buildSlice' ti62 ti64).trans (by simp)
@[simp, simp ↓] theorem bs106 {n : Nat} {ps : Array (Nat × Operand)} : Ok (Hl.step call Tryz.prog ⟨d, .buildSlice 106 n ps, t, p, a, g⟩ ρ h) Q ↔ (ps.toList.any (fun p => (ρ p.2).isU) = false ∧ n * 1 ≤ 16777216) ∧ Ok (pureOp.fillA n 1 (zeros [.int .u8 0] n) (ps.toList.map fun p => (p.1, ρ p.2))) fun cells => cells.all V.cellOk = true ∧ Q (.sl h.size 0 n 0 1 false, h.new cells) := (do_buildSlice' ti106 ti5).trans (by simp)
@[simp, simp ↓] theorem cv3_5 : Ok (Hl.step call Tryz.prog ⟨d, .convert 3 5 x, t, p, a, g⟩ ρ h) Q ↔ Ok (convV .u8 (ρ x)) fun v => Q (v, h) := do_conv' Tryz.underlying3 Tryz.underlying5
@[simp, simp ↓] theorem cv3_81 : Ok (Hl.step call Tryz.prog ⟨d, .convert 3 81 x, t, p, a, g⟩ ρ h) Q ↔ Ok (convV .u64 (ρ x)) fun v => Q (v, h) := do_conv' Tryz.underlying3 Tryz.underlying81
@[simp, simp ↓] theorem cv3_105 : Ok (Hl.step call Tryz.prog ⟨d, .convert 3 105 x, t, p, a, g⟩ ρ h) Q ↔ Ok (convV .u64 (ρ x)) fun v => Q (v, h) := do_conv' Tryz.underlying3 Tryz.underlying105
@[simp, simp ↓] theorem cv5_22 : Ok (Hl.step call Tryz.prog ⟨d, .convert 5 22 x, t, p, a, g⟩ ρ h) Q ↔ Ok (convV .u32 (ρ x)) fun v => Q (v, h) := do_conv' Tryz.underlying5 Tryz.underlying22
@[simp, simp ↓] theorem cv5_81 : Ok (Hl.step call Tryz.prog ⟨d, .convert 5 81 x, t, p, a, g⟩ ρ h) Q ↔ Ok (convV .u64 (ρ x)) fun v => Q (v, h) := do_conv' Tryz.underlying5 Tryz.underlying81
@[simp, simp ↓] theorem cv9_106 : Ok (Hl.step call Tryz.prog ⟨d, .convert 9 106 x, t, p, a, g⟩ ρ h) Q ↔ Ok (strBytesV h (ρ x)) Q := do_strBytes Tryz.underlying9 Tryz.underlying106 ti106 Tryz.underlying5
@[simp, simp ↓] theorem cv22_3 : Ok (Hl.step call Tryz.prog ⟨d, .convert 22 3 x, t, p, a, g⟩ ρ h) Q ↔ Ok (convV .i64 (ρ x)) fun v => Q (v, h) := do_conv' Tryz.underlying22 Tryz.underlying3
@[simp, simp ↓] theorem cv22_5 : Ok (Hl.step call Tryz.prog ⟨d, .convert 22 5 x, t, p, a, g⟩ ρ h) Q ↔ Ok (convV .u8 (ρ x)) fun v => Q (v, h) := do_conv' Tryz.underlying22 Tryz.underlying5
@[simp, simp ↓] theorem cv22_81 : Ok (Hl.step call Tryz.prog ⟨d, .convert 22 81 x, t, p, a, g⟩ ρ h) Q ↔ Ok (convV .u64 (ρ x)) fun v => Q (v, h) := do_conv' Tryz.underlying22 Tryz.underlying81
@[simp, simp ↓] theorem cv81_3 : Ok (Hl.step call Tryz.prog ⟨d, .convert 81 3 x, t, p, a, g⟩ ρ h) Q ↔ Ok (convV .i64 (ρ x)) fun v => Q (v, h) := do_conv' Tryz.underlying81 Tryz.underlying3
@[simp, simp ↓] theorem cv81_5 : Ok (Hl.step call Tryz.prog ⟨d, .convert 81 5 x, t, p, a, g⟩ ρ h) Q ↔ Ok (convV .u8 (ρ x)) fun v => Q (v, h) := do_conv' Tryz.underlying81 Tryz.underlying5
@[simp, simp ↓] theorem cv81_22 : Ok (Hl.step call Tryz.prog ⟨d, .convert 81 22 x, t, p, a, g⟩ ρ h) Q ↔ Ok (convV .u32 (ρ x)) fun v => Q (v, h) := do_conv' Tryz.underlying81 Tryz.underlying22
@[simp, simp ↓] theorem cv106_9 : Ok (Hl.step call Tryz.prog ⟨d, .convert 106 9 x, t, p, a, g⟩ ρ h) Q ↔ Ok (bytesStrV h (ρ x)) fun v => Q (v, h) := do_bytesStr Tryz.underlying106 Tryz.underlying9 Tryz.underlying5
@[simp, simp ↓] theorem rb106_9 {Q : V → Prop} : Ok (readOp Tryz.prog (.convert 106 9 x) ρ h) Q ↔ Ok (bytesStrV h (ρ x)) Q := readOp_bytes Tryz.underlying106 Tryz.underlying9 Tryz.underlying5
@[simp, simp ↓] theorem ap27_27 : Ok (Hl.step call Tryz.prog ⟨d, .call { callee := .builtin .append, args := #[x, y], argTypes := #[27, 27] }, t, p, a, g⟩ ρ h) Q ↔ Ok (appendV 2 24 h (ρ x) (ρ y)) Q := do_append' ti27 ti47 Tryz.underlying27 rfl rfl
@[simp, simp ↓] theorem ap28_28 : Ok (Hl.step call Tryz.prog ⟨d, .call { callee := .builtin .append, args := #[x, y], argTypes := #[28, 28] }, t, p, a, g⟩ ρ h) Q ↔ Ok (appendV 2 24 h (ρ x) (ρ y)) Q := do_append' ti28 ti44 Tryz.underlying28 rfl rfl
@[simp, simp ↓] theorem ap29_29 : Ok (Hl.step call Tryz.prog ⟨d, .call { callee := .builtin .append, args := #[x, y], argTypes := #[29, 29] }, t, p, a, g⟩ ρ h) Q ↔ Ok (appendV 2 16 h (ρ x) (ρ y)) Q := do_append' ti29 ti143 Tryz.underlying29 rfl rfl
@[simp, simp ↓] theorem ap30_30 : Ok (Hl.step call Tryz.prog ⟨d, .call { callee := .builtin .append, args := #[x, y], argTypes := #[30, 30] }, t, p, a, g⟩ ρ h) Q ↔ Ok (appendV 1 4 h (ρ x) (ρ y)) Q := do_append' ti30 ti22 Tryz.underlying30 rfl rfl
@[simp, simp ↓] theorem ap33_33 : Ok (Hl.step call Tryz.prog ⟨d, .call { callee := .builtin .append, args := #[x, y], argTypes := #[33, 33] }, t, p, a, g⟩ ρ h) Q ↔ Ok (appendV 15 184 h (ρ x) (ρ y)) Q := do_append' ti33 ti32 Tryz.underlying33 rfl rfl
@[simp, simp ↓] theorem ap51_51 : Ok (Hl.step call Tryz.prog ⟨d, .call { callee := .builtin .append, args := #[x, y], argTypes := #[51, 51] }, t, p, a, g⟩ ρ h) Q ↔ Ok (appendV 7 48 h (ρ x) (ρ y)) Q := do_append' ti51 ti56 Tryz.underlying51 rfl rfl
@[simp, simp ↓] theorem ap62_62 : Ok (Hl.step call Tryz.prog ⟨d, .call { callee := .builtin .append, args := #[x, y], argTypes := #[62, 62] }, t, p, a, g⟩ ρ h) Q ↔ Ok (appendV 2 24 h (ρ x) (ρ y)) Q := do_append' ti62 ti64 Tryz.underlying62 rfl rfl
end
@[simp] theorem le9 {s : List UInt8} : lenOp Tryz.prog 9 (.str s) = some (.int .i64 s.length) := len_str Tryz.underlying9
@[simp] theorem le27 {b o n v z : Nat} {m : Bool} : lenOp Tryz.prog 27 (.sl b o n v z m) = some (.int .i64 n) := len_sl Tryz.underlying27
@[simp] theorem len27 : lenOp Tryz.prog 27 .nils = some (.int .i64 0) := len_nils Tryz.underlying27
@[simp] theorem le28 {b o n v z : Nat} {m : Bool} : lenOp Tryz.prog 28 (.sl b o n v z m) = some (.int .i64 n) := len_sl Tryz.underlying28
@[simp] theorem len28 : lenOp Tryz.prog 28 .nils = some (.int .i64 0) := len_nils Tryz.underlying28
@[simp] theorem le29 {b o n v z : Nat} {m : Bool} : lenOp Tryz.prog 29 (.sl b o n v z m) = some (.int .i64 n) := len_sl Tryz.underlying29
@[simp] theorem len29 : lenOp Tryz.prog 29 .nils = some (.int .i64 0) := len_nils Tryz.underlying29
@[simp] theorem le30 {b o n v z : Nat} {m : Bool} : lenOp Tryz.prog 30 (.sl b o n v z m) = some (.int .i64 n) := len_sl Tryz.underlying30
@[simp] theorem len30 : lenOp Tryz.prog 30 .nils = some (.int .i64 0) := len_nils Tryz.underlying30
@[simp] theorem le33 {b o n v z : Nat} {m : Bool} : lenOp Tryz.prog 33 (.sl b o n v z m) = some (.int .i64 n) := len_sl Tryz.underlying33
@[simp] theorem len33 : lenOp Tryz.prog 33 .nils = some (.int .i64 0) := len_nils Tryz.underlying33
@[simp] theorem le50 {b o n v z : Nat} {m : Bool} : lenOp Tryz.prog 50 (.sl b o n v z m) = some (.int .i64 n) := len_sl Tryz.underlying50
@[simp] theorem len50 : lenOp Tryz.prog 50 .nils = some (.int .i64 0) := len_nils Tryz.underlying50
@[simp] theorem le51 {b o n v z : Nat} {m : Bool} : lenOp Tryz.prog 51 (.sl b o n v z m) = some (.int .i64 n) := len_sl Tryz.underlying51
@[simp] theorem len51 : lenOp Tryz.prog 51 .nils = some (.int .i64 0) := len_nils Tryz.underlying51
@[simp] theorem le62 {b o n v z : Nat} {m : Bool} : lenOp Tryz.prog 62 (.sl b o n v z m) = some (.int .i64 n) := len_sl Tryz.underlying62
@[simp] theorem len62 : lenOp Tryz.prog 62 .nils = some (.int .i64 0) := len_nils Tryz.underlying62
@[simp] theorem le106 {b o n v z : Nat} {m : Bool} : lenOp Tryz.prog 106 (.sl b o n v z m) = some (.int .i64 n) := len_sl Tryz.underlying106
@[simp] theorem len106 : lenOp Tryz.prog 106 .nils = some (.int .i64 0) := len_nils Tryz.underlying106
@[simp] theorem bbeql4 {x y : Bool} : binV Tryz.prog .eql 4 (.bool x) (.bool y) = some (.bool (decide (x = y))) := bin_eql_bool Tryz.underlying4
@[simp] theorem bpeql23_266 {_b _o _v _z : Nat} : binV Tryz.prog .eql 23 .nilp .nilp = some (.bool true) := by simp [binV, eqOp, Tryz.underlying23]
@[simp] theorem bpeql23_267 {b o v z : Nat} : binV Tryz.prog .eql 23 .nilp (.ptr b o v z) = some (.bool false) := by simp [binV, eqOp, Tryz.underlying23]
@[simp] theorem bpeql23_268 {b o v z : Nat} : binV Tryz.prog .eql 23 (.ptr b o v z) .nilp = some (.bool false) := by simp [binV, eqOp, Tryz.underlying23]
@[simp] theorem bseql51_269 {_b _o _n _v _z : Nat} {_m : Bool} : binV Tryz.prog .eql 51 .nils .nils = some (.bool true) := by simp [binV, eqOp, Tryz.underlying51]
@[simp] theorem bseql51_270 {b o n v z : Nat} {m : Bool} : binV Tryz.prog .eql 51 (.sl b o n v z m) .nils = some (.bool false) := by simp [binV, eqOp, Tryz.underlying51]
@[simp] theorem bpeql75_271 {_b _o _v _z : Nat} : binV Tryz.prog .eql 75 .nilp .nilp = some (.bool true) := by simp [binV, eqOp, Tryz.underlying75]
@[simp] theorem bpeql75_272 {b o v z : Nat} : binV Tryz.prog .eql 75 .nilp (.ptr b o v z) = some (.bool false) := by simp [binV, eqOp, Tryz.underlying75]
@[simp] theorem bpeql75_273 {b o v z : Nat} : binV Tryz.prog .eql 75 (.ptr b o v z) .nilp = some (.bool false) := by simp [binV, eqOp, Tryz.underlying75]
@[simp] theorem bpeql111_274 {_b _o _v _z : Nat} : binV Tryz.prog .eql 111 .nilp .nilp = some (.bool true) := by simp [binV, eqOp, Tryz.underlying111]
@[simp] theorem bpeql111_275 {b o v z : Nat} : binV Tryz.prog .eql 111 .nilp (.ptr b o v z) = some (.bool false) := by simp [binV, eqOp, Tryz.underlying111]
@[simp] theorem bpeql111_276 {b o v z : Nat} : binV Tryz.prog .eql 111 (.ptr b o v z) .nilp = some (.bool false) := by simp [binV, eqOp, Tryz.underlying111]
@[simp] theorem bpneq23_277 {_b _o _v _z : Nat} : binV Tryz.prog .neq 23 .nilp .nilp = some (.bool false) := by simp [binV, eqOp, Tryz.underlying23]
@[simp] theorem bpneq23_278 {b o v z : Nat} : binV Tryz.prog .neq 23 .nilp (.ptr b o v z) = some (.bool true) := by simp [binV, eqOp, Tryz.underlying23]
@[simp] theorem bpneq23_279 {b o v z : Nat} : binV Tryz.prog .neq 23 (.ptr b o v z) .nilp = some (.bool true) := by simp [binV, eqOp, Tryz.underlying23]
@[simp] theorem bpneq75_280 {_b _o _v _z : Nat} : binV Tryz.prog .neq 75 .nilp .nilp = some (.bool false) := by simp [binV, eqOp, Tryz.underlying75]
@[simp] theorem bpneq75_281 {b o v z : Nat} : binV Tryz.prog .neq 75 .nilp (.ptr b o v z) = some (.bool true) := by simp [binV, eqOp, Tryz.underlying75]
@[simp] theorem bpneq75_282 {b o v z : Nat} : binV Tryz.prog .neq 75 (.ptr b o v z) .nilp = some (.bool true) := by simp [binV, eqOp, Tryz.underlying75]
@[simp] theorem bpneq111_283 {_b _o _v _z : Nat} : binV Tryz.prog .neq 111 .nilp .nilp = some (.bool false) := by simp [binV, eqOp, Tryz.underlying111]
@[simp] theorem bpneq111_284 {b o v z : Nat} : binV Tryz.prog .neq 111 .nilp (.ptr b o v z) = some (.bool true) := by simp [binV, eqOp, Tryz.underlying111]
@[simp] theorem bpneq111_285 {b o v z : Nat} : binV Tryz.prog .neq 111 (.ptr b o v z) .nilp = some (.bool true) := by simp [binV, eqOp, Tryz.underlying111]
end Go.Proofs.YtklbbjfbcibghaaGreat
end
section
/-! A reader of bytes: its block, what its calls give. -/
namespace Go.Hl
abbrev rdr (s : Bs) (e : Int) : Blk := ⟨[.str s, .int .i64 e], 0, 0, false⟩
def isRdr : Option Blk → Bool
  | some ⟨[.str _, .int .i64 _], 0, 0, false⟩ => true
  | _ => false
def rdS : Option Blk → Bs
  | some ⟨[.str s, .int .i64 _], 0, 0, false⟩ => s
  | _ => []
def rdE : Option Blk → Int
  | some ⟨[.str _, .int .i64 e], 0, 0, false⟩ => e
  | _ => 0
@[simp] theorem isRdr_some {s : Bs} {e : Int} : isRdr (some (rdr s e)) = true := by unfold isRdr; rfl
@[simp] theorem rdS_some {s : Bs} {e : Int} : rdS (some (rdr s e)) = s := by unfold rdS; rfl
@[simp] theorem rdE_some {s : Bs} {e : Int} : rdE (some (rdr s e)) = e := by unfold rdE; rfl
theorem isRdr_get {o : Option Blk} (h : isRdr o = true) : ∃ s e, o = some (rdr s e) := by
  unfold isRdr at h
  split at h
  · exact ⟨_, _, rfl⟩
  · cases h
theorem lt_of_some {α : Type} {l : List α} {b : Nat} {k : α} (h : l[b]? = some k) : b < l.length := (List.getElem?_eq_some_iff.1 h).1
theorem set_self {α : Type} {l : List α} {b : Nat} {k : α} (h : l[b]? = some k) : l.set b k = l := by
  obtain ⟨hl, rfl⟩ := List.getElem?_eq_some_iff.1 h
  exact List.set_getElem_self hl
theorem get_set {α : Type} {l : List α} {b : Nat} {k : α} (h : b < l.length) : (l.set b k)[b]? = some k := List.getElem?_set_self h
/-- Taking n bytes: the bytes, what is left, the error. -/
def noTake (n : Int) (s : Bs) (e : Int) : Bool := decide (e ≠ 0) || decide (n < 0) || decide ((s.length : Int) < n)
def tkS (n : Int) (s : Bs) (e : Int) : Bs := if noTake n s e then [] else s.take n.toNat
def tkR (n : Int) (s : Bs) (e : Int) : Bs := if noTake n s e then s else s.drop n.toNat
def failE (e x : Int) : Int := if e = 0 then x else e
def tkE (n : Int) (s : Bs) (e : Int) : Int := if noTake n s e then failE e 2 else e
def leftN (s : Bs) (e : Int) : Int := if e = 0 then s.length else 0
theorem tkS_len (n : Int) (s : Bs) (e : Int) : (tkS n s e).length ≤ n.toNat := by
  unfold tkS
  split
  · simp
  · simp
    omega
theorem tkS_le (n : Int) (s : Bs) (e : Int) : (tkS n s e).length ≤ s.length := by
  unfold tkS
  split
  · simp
  · simp
    omega
theorem tkR_le (n : Int) (s : Bs) (e : Int) : (tkR n s e).length ≤ s.length := by
  unfold tkR
  split <;> simp
theorem numB_4 {l : Bs} (h : l.length ≤ 4) : numB l < 4294967296 := by
  refine Nat.lt_of_lt_of_le (numB_lt l) ?_
  exact Nat.pow_le_pow_right (n := 256) (by decide) h
/-- Noughts that fill up are asked for: what is wrong with those that came. -/
def flN (n : Int) (s : Bs) (e : Int) : Int := if leftN s e < (-n) % 4 then leftN s e else (-n) % 4
def flE (n : Int) (s : Bs) (e : Int) : Int :=
  if tkS (flN n s e) s e = noughts (tkS (flN n s e) s e).length then tkE (flN n s e) s e else failE (tkE (flN n s e) s e) 4
def flR (n : Int) (s : Bs) (e : Int) : Bs := tkR (flN n s e) s e
def endE (s : Bs) (e : Int) : Int := if e = 0 ∧ s ≠ [] then 3 else e
theorem and_3 (x : Int) : bitsOp .and .i64 x 3 = some (x % 4) := by
  have h3 : (BitVec.ofInt 64 3).toNat = 3 := by decide
  have h : (BitVec.ofInt 64 x &&& BitVec.ofInt 64 3).toNat = (x % 4).toNat := by
    rw [BitVec.toNat_and, h3]
    have h2 : ∀ m : Nat, m &&& 3 = m % 4 := fun m => by
      have := Nat.and_two_pow_sub_one_eq_mod m 2
      simpa using this
    rw [h2, BitVec.toNat_ofInt]
    have e64 : (((2 ^ 64 : Nat)) : Int) = 18446744073709551616 := by decide
    rw [e64]
    omega
  show some (IntKind.i64.wrap ((BitVec.ofInt 64 x &&& BitVec.ofInt 64 3).toNat : Int)) = _
  rw [h, wrap_i64 (by omega) (by omega)]
  congr 1
  omega
@[simp] theorem cast_not_neg (n : Nat) : ((n : Int) < 0) = False := by simp
theorem flN_lt (n : Int) (s : Bs) (e : Int) : flN n s e < 4 := by unfold flN; split <;> omega
theorem fl_len (n : Int) (s : Bs) (e : Int) : (tkS (flN n s e) s e).length ≤ 3 := by
  have := tkS_len (flN n s e) s e
  have := flN_lt n s e
  omega
theorem take_000 {k : Nat} (h : k ≤ 3) : ([0, 0, 0] : Bs).take k = noughts k := by
  obtain rfl | rfl | rfl | rfl := (by omega : k = 0 ∨ k = 1 ∨ k = 2 ∨ k = 3) <;> rfl
theorem numB_256 {l : Bs} (h : l.length ≤ 8) : numB l < 18446744073709551616 := by
  refine Nat.lt_of_lt_of_le (numB_lt l) ?_
  exact Nat.pow_le_pow_right (n := 256) (by decide) h
/-- A reader: what is left, the error. -/
structure RS where
  s : Bs
  e : Int
def RS.blk (r : RS) : Blk := rdr r.s r.e
def rs (o : Option Blk) : RS := ⟨rdS o, rdE o⟩
@[simp] theorem rs_some {r : RS} : rs (some r.blk) = r := by unfold rs RS.blk; simp
def RS.tk (n : Int) (r : RS) : RS := ⟨tkR n r.s r.e, tkE n r.s r.e⟩
def RS.got (n : Int) (r : RS) : Bs := tkS n r.s r.e
def RS.num (n : Int) (r : RS) : Nat := numB (r.got n)
def RS.fail (x : Int) (r : RS) : RS := ⟨r.s, failE r.e x⟩
def RS.fill (n : Int) (r : RS) : RS := ⟨flR n r.s r.e, flE n r.s r.e⟩
def RS.left (r : RS) : Int := leftN r.s r.e
def RS.rest (r : RS) : Bs := if r.e = 0 then r.s else []
def RS.end (r : RS) : RS := ⟨r.s, endE r.s r.e⟩
def RS.gone (r : RS) : RS := ⟨if r.e = 0 then [] else r.s, r.e⟩
section
variable {l m : List Blk} {b i : Nat} {x : Blk}
theorem get_app (h : b < l.length) : (l ++ m)[b]? = l[b]? := List.getElem?_append_left h
theorem set_app (h : b < l.length) : (l ++ m).set b x = l.set b x ++ m := List.set_append_left _ _ h
@[simp] theorem at_zeroS : (l.set b x ++ m)[l.length]? = m[0]? := by
  have := at_zero (l := l.set b x) (m := m)
  rwa [List.length_set] at this
@[simp] theorem at_addS : (l.set b x ++ m)[l.length + i]? = m[i]? := by
  have := at_add (l := l.set b x) (m := m) (i := i)
  rwa [List.length_set] at this
@[simp] theorem set_zeroS {y : Blk} : (l.set b x ++ m).set l.length y = l.set b x ++ m.set 0 y := by
  have := set_zero (l := l.set b x) (m := m) (k := y)
  rwa [List.length_set] at this
@[simp] theorem set_addS {y : Blk} : (l.set b x ++ m).set (l.length + i) y = l.set b x ++ m.set i y := by
  have := set_add (l := l.set b x) (m := m) (k := y) (i := i)
  rwa [List.length_set] at this
end
end Go.Hl
end
section
/-! Slices as lists: what is read of them. -/
namespace Go.Hl
theorem flat_at {α : Type} {f : α → List V} {z : Nat} (hf : ∀ a, (f a).length = z) : ∀ (l : List α) (i : Nat) (hi : i < l.length), ((l.flatMap f).drop (i * z)).take z = f l[i]
  | a :: l, 0, _ => by simp [List.flatMap_cons, hf a]
  | a :: l, i + 1, hi => by
    have := flat_at hf l i (by simpa using hi)
    simp only [List.flatMap_cons, List.getElem_cons_succ]
    rw [List.drop_append, hf a]
    rw [List.drop_of_length_le (by rw [hf a]; exact Nat.le_mul_of_pos_left _ (by omega)), List.nil_append, show (i + 1) * z - z = i * z by rw [Nat.add_mul]; omega]
    exact this
theorem flat_len {α : Type} {f : α → List V} {z : Nat} (hf : ∀ a, (f a).length = z) (l : List α) : (l.flatMap f).length = l.length * z := by
  induction l with
  | nil => simp
  | cons a l ih => simp [List.flatMap_cons, ih, hf a, Nat.add_mul]; omega

section
variable {α : Type} {f : α → List V} {z : Nat} {l : List α} {h : H} {v : V}
theorem Sl.at (hs : Sl h z l.length (l.flatMap f) v) (hf : ∀ a, (f a).length = z) : ∃ p : Nat → V,
    (∀ i, i < l.length → ∀ n b m zz et eb, indexAddrV ⟨n, b, m, zz, .slice et z eb⟩ v (.int .i64 i) = some (p i)) ∧
    (∀ i (hi : i < l.length), ∀ h', Ext h h' → ∀ n zz ty, readV ⟨z, true, n, zz, ty⟩ (p i) h' = some (.agg (f l[i]))) ∧
    (∀ i (hi : i < l.length), z = 1 → ∀ h', Ext h h' → ∀ n zz ty, readV ⟨1, false, n, zz, ty⟩ (p i) h' = (f l[i])[0]?) := by
  rcases hs with ⟨rfl, h0, -⟩ | ⟨b, off, ver, lim, k, rfl, hb, h1, h2, h3, h4⟩
  · exact ⟨fun _ => .nilp, fun i hi => by omega, fun i hi => by omega, fun i hi => by omega⟩
  · have key : ∀ i (hi : i < l.length), (k.cells.drop (off + i * z)).take z = f l[i] := fun i hi => by
      have := flat_at hf l i hi
      rw [← h3, List.drop_take, List.take_take, List.drop_drop] at this
      rw [← this]
      congr 1
      have : (i + 1) * z ≤ l.length * z := Nat.mul_le_mul_right _ (by omega)
      rw [Nat.add_mul] at this
      omega
    refine ⟨fun i => .ptr b (off + i * z) ver (off + i * z + z), fun i hi n b' m zz et eb => ?_, fun i hi h' hx n zz ty => ?_, fun i hi hz h' hx n zz ty => ?_⟩
    · have : (0 ≤ (i : Int) ∧ (i : Int) < l.length) := by omega
      simp [indexAddrV, idxLt, this]
    · simp only [readV, H.read, hx.get hb, h1, h2, and_self, if_true, key i hi]
      simp
    · subst hz
      simp only [readV, H.read, hx.get hb, h1, h2, and_self, if_true, key i hi]
      have := hf l[i]
      cases hl : f l[i] with
      | nil => simp [hl] at this
      | cons a r => simp
theorem Sl.len {n : Nat} {cs : List V} {P : Program} {t e : TypeId} (hs : Sl h z n cs v) (hu : P.underlying t = some (.slice e)) : lenOp P t v = some (.int .i64 n) := by
  rcases hs with ⟨rfl, h0, -⟩ | ⟨b, off, ver, lim, k, rfl, -⟩
  · rw [len_nils hu, h0]
    rfl
  · exact len_sl hu
theorem Ext.app {l m : List Blk} : Ext ⟨l, []⟩ ⟨l ++ m, []⟩ := ⟨m, [], by simp, by simp⟩
theorem Ext.appE {l m : List Blk} {es : List (Nat × Nat)} : Ext ⟨l, es⟩ ⟨l ++ m, []⟩ → True := fun _ => trivial
/-- It looks at blocks alone. -/
theorem Sl.blks {h h' : H} {n : Nat} {cs : List V} (hs : Sl h z n cs v) (hb : h.blks = h'.blks) : Sl h' z n cs v := by
  rcases hs with hs | ⟨b, off, ver, lim, k, h1, h2, h3⟩
  · exact .inl hs
  · exact .inr ⟨b, off, ver, lim, k, h1, hb ▸ h2, h3⟩
end
end Go.Hl
end
section
/-! Slices that grow; what a call leaves. -/
namespace Go.Hl
/-- v can be appended to, and its block is not one of the first ones. -/
def OwnF (lo : Nat) (h : H) (esz n : Nat) (v : V) : Prop :=
  (v = .nils ∧ n = 0) ∨ ∃ b off ver k, v = .sl b off n ver esz false ∧ lo ≤ b ∧ h.blks[b]? = some k ∧ k.ro = false ∧ k.gen = ver ∧ off + n * esz = k.cells.length
/-- All slices that could be read can be read. -/
def Keeps (h h' : H) : Prop := ∀ z n cs u, Sl h z n cs u → Sl h' z n cs u
theorem Keeps.refl (h : H) : Keeps h h := fun _ _ _ _ s => s
theorem Keeps.trans {a b c : H} (x : Keeps a b) (y : Keeps b c) : Keeps a c := fun z n cs u s => y z n cs u (x z n cs u s)
theorem Ext.keeps {h h' : H} (a : Ext h h') : Keeps h h' := fun _ _ _ _ s => s.ext a
theorem Sl.app {l m : List Blk} {es es' : List (Nat × Nat)} {z n : Nat} {cs : List V} {v : V} (s : Sl ⟨l, es⟩ z n cs v) : Sl ⟨l ++ m, es'⟩ z n cs v := by
  rcases s with s | ⟨b, off, ver, lim, k, h1, h2, h3⟩
  · exact .inl s
  · exact .inr ⟨b, off, ver, lim, k, h1, at_old h2, h3⟩
theorem OwnF.app {lo : Nat} {l m : List Blk} {es es' : List (Nat × Nat)} {z n : Nat} {v : V} (s : OwnF lo ⟨l, es⟩ z n v) : OwnF lo ⟨l ++ m, es'⟩ z n v := by
  rcases s with s | ⟨b, off, ver, k, h1, h0, h2, h3⟩
  · exact .inl s
  · exact .inr ⟨b, off, ver, k, h1, h0, at_old h2, h3⟩
theorem Sl.nil (h : H) (z : Nat) : Sl h z 0 [] .nils := .inl ⟨rfl, rfl, rfl⟩
theorem OwnF.nil (lo : Nat) (h : H) (z : Nat) : OwnF lo h z 0 .nils := .inl ⟨rfl, rfl⟩

/-- One element more. -/
theorem append_own {pre m : List Blk} {es : List (Nat × Nat)} {esz eb n bx ox vx : Nat} {cs ys : List V} {v : V} {lim : Bool}
    (hs : Sl ⟨pre ++ m, es⟩ esz n cs v) (ho : OwnF pre.length ⟨pre ++ m, es⟩ esz n v) (hx : H.read ⟨pre ++ m, es⟩ bx ox vx esz = some ys) (hy : ys.length = esz) (hz : 0 < esz)
    (hok : ys.all V.cellOk = true) (hb : (n + 1) * eb ≤ 70368744177664) (hn : n + 1 ≤ 70368744177664) :
    ∃ v' m' es', appendV esz eb ⟨pre ++ m, es⟩ v (.sl bx ox 1 vx esz lim) = some (v', ⟨pre ++ m', es ++ es'⟩) ∧ Sl ⟨pre ++ m', es ++ es'⟩ esz (n + 1) (cs ++ ys) v' ∧ OwnF pre.length ⟨pre ++ m', es ++ es'⟩ esz (n + 1) v' ∧
      (∀ x ∈ es', pre.length ≤ x.1) ∧ Keeps ⟨pre ++ m, es⟩ ⟨pre ++ m', es ++ es'⟩ ∧ m.length ≤ m'.length ∧ ((∀ b, V.uptos b ys = []) → es' = []) ∧ v' ≠ .nils := by
  rcases ho with ⟨rfl, rfl⟩ | ⟨b, off, ver, k, rfl, hlo, hk, hro, hg, hc⟩
  · rcases hs with ⟨-, -, rfl⟩ | ⟨b, off, ver, lim, k, h1, -⟩
    · refine ⟨.sl (pre.length + m.length) 0 1 0 esz false, m ++ [⟨ys, 0, 0, false⟩], [], ?_, .inr ⟨_, 0, 0, false, ⟨ys, 0, 0, false⟩, rfl, ?_, Nat.le_refl _, Nat.le_refl _, ?_, ?_⟩, .inr ⟨_, 0, 0, ⟨ys, 0, 0, false⟩, rfl, by omega, ?_, rfl, rfl, ?_⟩, by simp, ?_, by simp, fun _ => rfl, by simp⟩
      · have e1 : 1 * esz = esz := Nat.one_mul _
        have hb' : eb ≤ 70368744177664 := by simpa using hb
        have hok' := List.all_eq_true.1 hok
        simp [appendV, sourceOf, e1, hx, appendTo, hz, hb', H.size]
        exact hok'
      · simp
      · simp only [List.drop_zero]
        rw [List.take_of_length_le (by omega)]
        simp
      · simp [hy]
      · simp
      · simp [hy]
      · intro z n cs u s
        rw [← List.append_assoc]
        exact s.app
    · cases h1
  · have hbl : b < (pre ++ m).length := (List.getElem?_eq_some_iff.1 hk).1
    obtain ⟨j, rfl⟩ : ∃ j, b = pre.length + j := ⟨b - pre.length, by omega⟩
    have hcs : cs.length = n * esz ∧ (k.cells.drop off).take (n * esz) = cs ∧ k.valid ≤ ver := by
      rcases hs with ⟨h1, -⟩ | ⟨b', off', ver', lim', k', h1, h2, h3, h4, h5, h6⟩
      · cases h1
      · injection h1 with h7 h8 h9 h10 h11 h12
        subst h7 h8 h10
        rw [hk] at h2
        injection h2 with h2
        subst h2
        exact ⟨h6, h5, h3⟩
    obtain ⟨c1, c2, c3⟩ := hcs
    refine ⟨.sl (pre.length + j) off (n + 1) (ver + 1) esz false, m.set j ⟨k.cells ++ ys, k.gen + 1, k.valid, k.ro⟩, escs (pre.length + j) ys, ?_, .inr ⟨_, _, _, _, ⟨k.cells ++ ys, k.gen + 1, k.valid, k.ro⟩, rfl, ?_, by simp; omega, by simp; omega, ?_, by simp [c1, hy, Nat.add_mul]⟩,
      .inr ⟨_, _, _, ⟨k.cells ++ ys, k.gen + 1, k.valid, k.ro⟩, rfl, by omega, ?_, hro, by simp [hg], by simp [hy, Nat.add_mul]; omega⟩, ?_, ?_, by simp, ?_, by simp⟩
    · have e1 : 1 * esz = esz := Nat.one_mul _
      simp only [appendV, sourceOf, if_true, e1, hx, Option.map_some, lenV_sl, appendTo, hk, hc, H.grow]
      rw [if_neg (by decide), if_pos ⟨hz, hb, hn⟩]
      rw [if_pos ⟨hro, hg.symm, hok⟩]
      simp
    · rw [← set_add, List.getElem?_set_self hbl]
    · have e2 : (n + 1) * esz = n * esz + esz := by rw [Nat.add_mul]; omega
      have hd : (k.cells.drop off).length = n * esz := by simp; omega
      rw [List.drop_append_of_le_length (by omega), e2, List.take_append, List.take_of_length_le (l := k.cells.drop off) (by omega), ← c2, List.take_of_length_le (l := k.cells.drop off) (by omega), hd, List.take_of_length_le (by omega)]
    · rw [← set_add, List.getElem?_set_self hbl]
    · intro x hx'
      simp only [escs, List.mem_map] at hx'
      obtain ⟨r, -, rfl⟩ := hx'
      simp
    · intro z n' cs' u s
      rcases s with s | ⟨b', off', ver', lim', k', h1, h2, h3, h4, h5, h6⟩
      · exact .inl s
      · by_cases hbb : pre.length + j = b'
        · subst hbb
          rw [hk] at h2
          injection h2 with h2
          subst h2
          refine .inr ⟨_, _, _, _, ⟨k.cells ++ ys, k.gen + 1, k.valid, k.ro⟩, h1, by rw [← set_add, List.getElem?_set_self hbl], h3, by simp; omega, ?_, h6⟩
          have hl : cs'.length ≤ (k.cells.drop off').length := by
            rw [← h5]
            simp
            omega
          by_cases h0 : n' * z = 0
          · rw [h0] at h5 ⊢
            simpa using h5
          · have hle : off' ≤ k.cells.length := by
              by_cases hle : off' ≤ k.cells.length
              · exact hle
              · rw [List.drop_of_length_le (by omega)] at hl
                simp at hl
                rw [hl] at h6
                simp at h6
                omega
            rw [List.drop_append_of_le_length hle, List.take_append_of_le_length (by omega)]
            exact h5
        · refine .inr ⟨b', off', ver', lim', k', h1, ?_, h3, h4, h5, h6⟩
          rw [← set_add, List.getElem?_set_ne hbb]
          exact h2
    · intro hu
      simp [escs, hu]

/-- One element more, that was put into a new block. -/
theorem append_new {pre m : List Blk} {es : List (Nat × Nat)} {esz eb n : Nat} {cs ys : List V} {v : V}
    (hs : Sl ⟨pre ++ m, es⟩ esz n cs v) (ho : OwnF pre.length ⟨pre ++ m, es⟩ esz n v) (hy : ys.length = esz) (hz : 0 < esz)
    (hok : ys.all V.cellOk = true) (hb : (n + 1) * eb ≤ 70368744177664) (hn : n + 1 ≤ 70368744177664) (j : Nat) (hj : j = pre.length + m.length) :
    ∃ v' m' es', appendV esz eb ⟨pre ++ (m ++ [⟨ys, 0, 0, false⟩]), es⟩ v (.sl j 0 1 0 esz false) = some (v', ⟨pre ++ m', es ++ es'⟩) ∧ Sl ⟨pre ++ m', es ++ es'⟩ esz (n + 1) (cs ++ ys) v' ∧ OwnF pre.length ⟨pre ++ m', es ++ es'⟩ esz (n + 1) v' ∧
      (∀ x ∈ es', pre.length ≤ x.1) ∧ Keeps ⟨pre ++ m, es⟩ ⟨pre ++ m', es ++ es'⟩ ∧ ((∀ b, V.uptos b ys = []) → es' = []) ∧ v' ≠ .nils := by
  subst hj
  obtain ⟨v', m', es', h1, h2, h3, h4, h5, -, h6, h7⟩ := append_own (eb := eb) (bx := pre.length + m.length) (ox := 0) (vx := 0) (lim := false) (pre := pre) (m := m ++ [⟨ys, 0, 0, false⟩]) (es := es) (ys := ys) (cs := cs) (v := v)
    (by rw [← List.append_assoc]; exact hs.app) (by rw [← List.append_assoc]; exact ho.app) (by simp [H.read]; exact List.take_of_length_le (by omega)) hy hz hok hb hn
  refine ⟨v', m', es', h1, h2, h3, h4, fun z n cs u s => h5 z n cs u ?_, h6, h7⟩
  rw [← List.append_assoc]
  exact s.app
/-- The first blocks are others. -/
theorem SlOwn_swap {p p' m : List Blk} {es es' : List (Nat × Nat)} {z n : Nat} {cs : List V} {v : V} (hp : p'.length = p.length) (hs : Sl ⟨p ++ m, es⟩ z n cs v) (ho : OwnF p.length ⟨p ++ m, es⟩ z n v) :
    Sl ⟨p' ++ m, es'⟩ z n cs v ∧ OwnF p'.length ⟨p' ++ m, es'⟩ z n v := by
  rcases ho with ho | ⟨b, off, ver, k, rfl, hlo, hk, hro, hg, hc⟩
  · refine ⟨?_, .inl ho⟩
    rcases hs with hs | ⟨b, off, ver, lim, k, h1, -⟩
    · exact .inl hs
    · rw [ho.1] at h1
      cases h1
  · obtain ⟨j, rfl⟩ : ∃ j, b = p.length + j := ⟨b - p.length, by omega⟩
    have e : (p' ++ m)[p.length + j]? = some k := by
      rw [← hp, at_add]
      rw [at_add] at hk
      exact hk
    refine ⟨?_, .inr ⟨_, off, ver, k, rfl, by omega, e, hro, hg, hc⟩⟩
    rcases hs with hs | ⟨b', off', ver', lim', k', h1, h2, h3⟩
    · exact .inl hs
    · injection h1 with h7
      subst h7
      rw [hk] at h2
      injection h2 with h2
      subst h2
      exact .inr ⟨_, off', ver', lim', k, by rw [‹off = off'›, ‹ver = ver'›, ‹false = lim'›], e, h3⟩
/-- What a call leaves of memory. -/
theorem leave_cases {h : H} {m : List Blk} {es : List (Nat × Nat)} {v : V} : leave h ⟨h.blks ++ m, es⟩ v = ⟨h.blks ++ m, h.esc ++ es⟩ ∨ (V.under h.blks.length v = true ∧ leave h ⟨h.blks ++ m, es⟩ v = ⟨h.blks, h.esc ++ es.filter fun x => decide (x.1 < h.size)⟩) := by
  unfold leave
  split
  · rename_i hc
    simp only [Bool.and_eq_true] at hc
    refine .inr ⟨hc.1, ?_⟩
    simp [H.size]
  · exact .inl rfl
theorem leave_ext {h : H} {m : List Blk} {es : List (Nat × Nat)} {v : V} (hes : ∀ x ∈ es, h.size ≤ x.1) : Ext h (leave h ⟨h.blks ++ m, es⟩ v) := by
  rcases leave_cases (h := h) (m := m) (es := es) (v := v) with hl | ⟨-, hl⟩
  · rw [hl]
    exact ⟨m, es, rfl, hes⟩
  · rw [hl]
    exact ⟨[], es.filter fun x => decide (x.1 < h.size), by simp, fun x hx => hes x (List.mem_filter.1 hx).1⟩
theorem leave_sl {h : H} {m : List Blk} {es : List (Nat × Nat)} {v u : V} {z n : Nat} {cs : List V} (hs : Sl ⟨h.blks ++ m, es⟩ z n cs u) (hu : V.under h.blks.length v = true → V.under h.blks.length u = true) :
    Sl (leave h ⟨h.blks ++ m, es⟩ v) z n cs u := by
  rcases leave_cases (h := h) (m := m) (es := es) (v := v) with hl | ⟨hv, hl⟩
  · rw [hl]
    exact hs.blks rfl
  · rw [hl]
    rcases hs with hs | ⟨b, off, ver, lim, k, h1, h2, h3⟩
    · exact .inl hs
    · have := hu hv
      rw [h1] at this
      simp at this
      exact .inr ⟨b, off, ver, lim, k, h1, by simpa [List.getElem?_append_left this] using h2, h3⟩
/-- v's block is none of the first ones. -/
def Hi (k : Nat) (v : V) : Prop := ∀ b off n ver z l, v = .sl b off n ver z l → k ≤ b
theorem OwnF.hi {k : Nat} {h : H} {z n : Nat} {v : V} (o : OwnF k h z n v) : Hi k v := by
  rcases o with ⟨rfl, -⟩ | ⟨b, off, ver, x, rfl, hb, -⟩
  · intro b off n ver z l e
    cases e
  · intro b off n ver z l e
    injection e with e
    omega
theorem Hi.nils {k : Nat} : Hi k .nils := fun b off n ver z l e => by cases e
theorem Hi.le {k j : Nat} {v : V} (h : Hi k v) (hj : j ≤ k) : Hi j v := fun b off n ver z l e => Nat.le_trans hj (h b off n ver z l e)
end Go.Hl
end
section
/-! Plain: the table of one between, as lists. -/
namespace Go.Hl
/-- An entry. -/
structure En where
  inner : Int
  port : Int
  peer : Int
  pport : Int
  in_ : Int
  out : Int
  seen : Int
  deriving DecidableEq
def En.cells (e : En) : List V := [.int .u32 e.inner, .int .i64 e.port, .int .u32 e.peer, .int .i64 e.pport, .int .u32 e.in_, .int .u32 e.out, .int .i64 e.seen]
theorem En.cells_len (e : En) : e.cells.length = 7 := rfl
def En.same (a b : En) : Bool := decide (a.peer = b.peer ∧ a.pport = b.pport ∧ a.port = b.port ∧ a.in_ = b.in_)
/-- The place of the first one of which p holds; -1: there is none. -/
def idxN (p : En → Bool) : List En → Int
  | [] => -1
  | x :: l => if p x then 0 else if idxN p l < 0 then -1 else idxN p l + 1
theorem idxN_lt (p : En → Bool) : ∀ l : List En, -1 ≤ idxN p l ∧ idxN p l < l.length
  | [] => by simp [idxN]
  | x :: l => by
    have := idxN_lt p l
    unfold idxN
    simp only [List.length_cons]
    split
    · omega
    · split <;> omega
theorem idxN_some (p : En → Bool) : ∀ (l : List En) (n : Nat), idxN p l = n → ∃ e, l[n]? = some e ∧ p e = true
  | [], n, h => by
    simp only [idxN] at h
    omega
  | x :: l, n, h => by
    unfold idxN at h
    split at h
    · obtain rfl : n = 0 := by omega
      exact ⟨x, rfl, by assumption⟩
    · split at h
      · omega
      · obtain ⟨m, rfl⟩ : ∃ m, n = m + 1 := ⟨n - 1, by omega⟩
        obtain ⟨e, h1, h2⟩ := idxN_some p l m (by omega)
        exact ⟨e, by simpa using h1, h2⟩
theorem idxN_none (p : En → Bool) : ∀ l : List En, idxN p l < 0 → ∀ e ∈ l, p e = false
  | [], _ => by simp
  | x :: l, h => by
    unfold idxN at h
    split at h
    · omega
    · rename_i hx
      split at h
      · rename_i hl
        intro e he
        rcases List.mem_cons.1 he with rfl | he
        · simpa using hx
        · exact idxN_none p l hl e he
      · omega
theorem idxN_neg (p : En → Bool) (l : List En) : idxN p l < 0 ↔ idxN p l = -1 := by
  have := idxN_lt p l
  omega
/-- From a place on: the walk's step. -/
theorem idxN_at {p : En → Bool} {l : List En} {i : Nat} (hi : i < l.length) (h0 : ∀ j (hj : j < l.length), j < i → p l[j] = false) (h1 : p l[i] = true) : idxN p l = (i : Int) := by
  induction l generalizing i with
  | nil => simp at hi
  | cons x l ih =>
    unfold idxN
    cases i with
    | zero =>
      rw [List.getElem_cons_zero] at h1
      rw [if_pos h1]
      rfl
    | succ i =>
      have hx : ¬ p x = true := by
        have := h0 0 (by simp) (by omega)
        simpa using this
      have := ih (i := i) (by simpa using hi) (fun j hj hji => by
        have := h0 (j + 1) (by simpa using hj) (by omega)
        simpa using this) (by simpa using h1)
      rw [if_neg hx, this, if_neg (by omega)]
      omega
theorem idxN_out {p : En → Bool} {l : List En} (h0 : ∀ j (hj : j < l.length), p l[j] = false) : idxN p l = -1 := by
  induction l with
  | nil => rfl
  | cons x l ih =>
    have hx : ¬ p x = true := by
      have := h0 0 (by simp)
      simpa using this
    have := ih (fun j hj => by
      have := h0 (j + 1) (by simpa using hj)
      simpa using this)
    unfold idxN
    rw [if_neg hx, this]
    rfl
def portsN (L : List En) (e : En) : Bool := decide (0 ≤ idxN (fun x => decide (x.inner ≠ e.inner ∧ x.peer = e.peer ∧ x.pport = e.pport ∧ x.port = e.port)) L)
def inN (L : List En) (e : En) (m : Bool) : Int := idxN (fun x => decide (x.peer = e.peer ∧ x.pport = e.pport ∧ x.port = e.port) && (if m then decide (x.out ≠ 0 ∧ x.out = e.out) else decide (x.in_ = e.in_))) L
def outN (L : List En) (e : En) (m : Bool) : Int := idxN (fun x => decide (x.inner = e.inner ∧ x.peer = e.peer ∧ x.pport = e.pport ∧ x.port = e.port) && (if m then decide (x.in_ = e.in_) else decide (x.out ≠ 0 ∧ x.out = e.out))) L
/-- An entry made, or refreshed; the error (1 input, 110 clash, 6 full). -/
def addN (L : List En) (most : Int) (e : En) : Int × List En :=
  if e.in_ = 0 then (1, L) else
  let i := idxN (fun x => x.same e) L
  if 0 ≤ i then
    let x := L.getD i.toNat e
    if x.inner ≠ e.inner then (110, L) else (0, L.set i.toNat { x with seen := e.seen, out := if e.out ≠ 0 then e.out else x.out })
  else if most ≤ (L.length : Int) then (6, L) else (0, L ++ [e])
/-- Each entry was spoken for. -/
def Spoke (L S : List En) : Prop := ∀ y ∈ L, ∃ x ∈ S, x.inner = y.inner ∧ x.peer = y.peer ∧ x.pport = y.pport ∧ x.port = y.port ∧ x.in_ = y.in_
theorem Spoke.nil (S : List En) : Spoke [] S := fun _ h => by cases h
theorem Spoke.more {L S : List En} (h : Spoke L S) (x : En) : Spoke L (S ++ [x]) := fun y hy => by
  obtain ⟨z, hz, h1⟩ := h y hy
  exact ⟨z, List.mem_append_left _ hz, h1⟩
theorem Spoke.set {L S : List En} (h : Spoke L S) {n : Nat} {e y : En} (hy : L[n]? = some y) (h1 : e.inner = y.inner ∧ e.peer = y.peer ∧ e.pport = y.pport ∧ e.port = y.port ∧ e.in_ = y.in_) : Spoke (L.set n e) S := fun z hz => by
  obtain ⟨i, hi⟩ := List.mem_iff_getElem?.1 hz
  by_cases hin : n = i
  · subst hin
    have hlt : n < L.length := (List.getElem?_eq_some_iff.1 hy).1
    rw [List.getElem?_set_self hlt] at hi
    injection hi with hi
    subst hi
    obtain ⟨x, hx, h2⟩ := h y (List.mem_iff_getElem?.2 ⟨n, hy⟩)
    exact ⟨x, hx, by omega⟩
  · rw [List.getElem?_set_ne hin] at hi
    exact h z (List.mem_iff_getElem?.2 ⟨i, hi⟩)
/-- What is made or refreshed was spoken for by the one that made it. -/
theorem Spoke.add {L S : List En} (h : Spoke L S) {most : Int} {e x : En} (ha : (addN L most e).1 = 0) (hx : x.inner = e.inner ∧ x.peer = e.peer ∧ x.pport = e.pport ∧ x.port = e.port ∧ x.in_ = e.in_) : Spoke (addN L most e).2 (S ++ [x]) := by
  unfold addN at ha ⊢
  simp only at ha ⊢
  split at ha
  · cases ha
  rename_i h0
  rw [if_neg h0]
  split at ha
  · rename_i hi
    rw [if_pos hi]
    obtain ⟨n, hn⟩ : ∃ n : Nat, idxN (fun x => x.same e) L = n := ⟨(idxN (fun x => x.same e) L).toNat, by omega⟩
    obtain ⟨y, hy, hp⟩ := idxN_some _ _ n hn
    rw [hn] at ha ⊢
    have hg : L.getD ((n : Int).toNat) e = y := by
      rw [Int.toNat_natCast, List.getD_eq_getElem?_getD, hy]
      rfl
    rw [hg] at ha ⊢
    split at ha
    · cases ha
    · rename_i hin
      rw [if_neg hin, Int.toNat_natCast]
      exact (h.more x).set hy ⟨rfl, rfl, rfl, rfl, rfl⟩
  · rename_i hi
    rw [if_neg hi]
    split at ha
    · cases ha
    · rename_i hm
      rw [if_neg hm]
      intro y hy
      rcases List.mem_append.1 hy with hy | hy
      · exact (h.more x) y hy
      · rw [List.mem_singleton.1 hy]
        exact ⟨x, by simp, hx⟩
/-- What finds its way inwards goes to one that spoke. -/
theorem Spoke.inward {L S : List En} (h : Spoke L S) {e : En} {m : Bool} {n : Nat} (hn : inN L e m = n) : ∃ y, L[n]? = some y ∧ ∃ x ∈ S, x.inner = y.inner ∧ x.peer = e.peer ∧ x.pport = e.pport ∧ x.port = e.port ∧ (m = true ∨ x.in_ = e.in_) := by
  obtain ⟨y, hy, hp⟩ := idxN_some _ _ n hn
  obtain ⟨x, hx, h1⟩ := h y (List.mem_iff_getElem?.2 ⟨n, hy⟩)
  simp only [Bool.and_eq_true, decide_eq_true_eq] at hp
  refine ⟨y, hy, x, hx, by omega, by omega, by omega, by omega, ?_⟩
  cases m with
  | true => exact .inl rfl
  | false =>
    right
    have := hp.2
    simp at this
    omega
end Go.Hl
end
section
/-! Hl: functions as values: how they are made and called. -/
namespace Go.Hl
section
variable {P : Program} {call : CallT} {d : Option Tmp} {t : TypeId} {p : String} {a : Array Edge} {g : Option (Nat × Bool)} {ρ : Operand → V} {h : H} {Q : V × H → Prop}
/-- A value that is called. -/
def callV (call : CallT) (f : V) (xs : List V) (h : H) : Option (V × H) := match f with
  | .fn (.func g) first caps => call g (first ++ xs ++ caps) h
  | _ => none
@[simp] theorem callV_fn {i : FuncId} {first caps xs : List V} : callV call (.fn (.func i) first caps) xs h = call i (first ++ xs ++ caps) h := rfl
theorem do_callV {f : Operand} {args : Array Operand} {s : Array TypeId} : Ok (step call P ⟨d, .call { callee := .value f, args := args, argTypes := s }, t, p, a, g⟩ ρ h) Q ↔ Ok (callV call (ρ f) (args.toList.map ρ) h) Q := by
  unfold step callV
  simp only [kindOf, callOp]
  exact Iff.rfl
theorem do_makeFunc {f : Fn} {xs ys : Array Operand} : Ok (step call P ⟨d, .makeFunc f xs ys, t, p, a, g⟩ ρ h) Q ↔ Q (.fn f (xs.toList.map ρ) (ys.toList.map ρ), h) := by
  rw [do_pure rfl]
  simp only [pureOp]
  exact Ok_some
end
end Go.Hl
end
section
/-! Hl: structs of whole numbers are held against each other. -/
namespace Go.Hl
variable {P : Program} {t : TypeId}
def leafInt (P : Program) (t : TypeId) : Bool := match P.info? t, P.underlying t with
  | some i, some (.int _) => decide (i.size = 1)
  | _, _ => false
theorem flat_int (h : leafInt P t = true) (d : Nat) : flatSh P (d + 1) t = some [.i] := by
  unfold leafInt at h
  split at h
  · rename_i i k hi hu
    rw [flatSh, hi, hu]
    simp only [of_decide_eq_true h, if_true]
  · cases h
def intsAt (P : Program) : List Field → Nat → Bool
  | [], _ => true
  | f :: l, k => decide (f.name ≠ "_") && decide (f.offset = k) && leafInt P f.type && intsAt P l (k + 1)
theorem flatFs_ints {d : Nat} : ∀ (l : List Field) (k : Nat), intsAt P l k = true → flatSh.flatFs P (d + 1) l k = some (List.replicate l.length .i)
  | [], k, _ => by simp [flatSh.flatFs]
  | f :: l, k, h => by
    simp only [intsAt, Bool.and_eq_true, decide_eq_true_eq] at h
    obtain ⟨⟨⟨h1, h2⟩, h3⟩, h4⟩ := h
    rw [flatSh.flatFs, if_pos ⟨h1, h2⟩, flat_int h3]
    simp only [List.length_cons, List.length_nil, Nat.zero_add]
    rw [flatFs_ints l (k + 1) h4]
    rfl
def intStruct (P : Program) (t : TypeId) (n : Nat) : Bool := match P.info? t, P.underlying t with
  | some i, some (.struct fs) => !P.stoodInHeld t && decide (i.size = n) && decide (fs.toList.length = n) && intsAt P fs.toList 0
  | _, _ => false
theorem flat_ints {n : Nat} (h : intStruct P t n = true) : flatSh P 100 t = some (List.replicate n .i) := by
  unfold intStruct at h
  split at h
  · rename_i i fs hi hu
    simp only [Bool.and_eq_true, Bool.not_eq_true', decide_eq_true_eq] at h
    obtain ⟨⟨⟨h1, h2⟩, h3⟩, h4⟩ := h
    rw [flatSh, hi, hu]
    simp only [h1, Bool.false_eq_true, if_false, flatFs_ints fs.toList 0 h4, h3, List.length_replicate, h2, if_true]
  · cases h
theorem eqOp_ints {n : Nat} {a b : List V} {r : Bool} (h : intStruct P t n = true) (h3 : P.eqGuardType P.depth t = false) (ha : fits (List.replicate n .i) a = true) (hb : fits (List.replicate n .i) b = true) (hc : cellsEq a b = some r) : eqOp P t (.agg a) (.agg b) = some r := by
  have h2 := flat_ints h
  unfold intStruct at h
  split at h
  · rename_i i fs hi hu
    unfold eqOp
    rw [hu]
    simp only [h2, h3, ha, hb, hc]
    rfl
  · cases h
theorem eql_ints {n : Nat} {a b : List V} {r : Bool} (h : intStruct P t n = true) (h3 : P.eqGuardType P.depth t = false) (ha : fits (List.replicate n .i) a = true) (hb : fits (List.replicate n .i) b = true) (hc : cellsEq a b = some r) : binV P .eql t (.agg a) (.agg b) = some (.bool r) := by
  unfold binV
  simp only [eqOp_ints h h3 ha hb hc]
  rfl
theorem neq_ints {n : Nat} {a b : List V} {r : Bool} (h : intStruct P t n = true) (h3 : P.eqGuardType P.depth t = false) (ha : fits (List.replicate n .i) a = true) (hb : fits (List.replicate n .i) b = true) (hc : cellsEq a b = some r) : binV P .neq t (.agg a) (.agg b) = some (.bool !r) := by
  unfold binV
  simp only [eqOp_ints h h3 ha hb hc]
  rfl
end Go.Hl
end
section
namespace Go.Proofs.YtklbbjfbcibghaaGreat
open Go.Hl
set_option maxHeartbeats 4000000
variable {C : CallT} {h : H}
theorem slices_Index {L : List En} {v F : V} {g : FuncId} {first caps : List V} {p : En → Bool} (hs : Sl h 7 L.length (L.flatMap En.cells) v) (hF : F = .fn (.func g) first caps) (hp : ∀ e ∈ L, Does Tryz.prog C g (first ++ [.agg e.cells] ++ caps) ⟨h.blks, []⟩ = some (.bool (p e), ⟨h.blks, []⟩)) (hl : L.length ≤ 1000000) :
    Does Tryz.prog C 75 [v, F] h = some (.int .i64 (idxN p L), h) := by
  have hlen := hs.len Tryz.underlying51
  obtain ⟨q, hia, hrd, -⟩ := (hs.blks (h' := ⟨h.blks, []⟩) rfl).at En.cells_len
  subst hF
  refine Does_eq (n := 19) (rs := [.tmp 4]) Tryz.func75 (by kernel_rfl) rfl rfl rfl (by simp) fun σ hg => ?_
  simp (dsimp := false) [hg, hlen]
  refine W_loopM (fun n σ h' => ∃ i : Nat, n = L.length - i ∧ i ≤ L.length ∧ h' = ⟨h.blks, []⟩ ∧ σ 0 = v ∧ σ 1 = .fn (.func g) first caps ∧ σ 7 = .int .i64 L.length ∧ σ 8 = .int .i64 i ∧ ∀ j (hj : j < L.length), j < i → p L[j] = false) ?_ L.length _ _ ?_
  · rintro _ σ _ ⟨i, rfl, hi, rfl, h0, h1, h7, h8, hn⟩
    by_cases hlt : i < L.length
    · have d1 := eq_true hlt
      have hia := hia i hlt
      have hrd := hrd i hlt _ (Ext.refl _)
      have hp := hp L[i] (List.getElem_mem hlt)
      have hwi : IntKind.i64.wrap ((i : Int) + 1) = (i : Int) + 1 := wrap_i64 (by omega) (by omega)
      simp at hp
      by_cases hpi : p L[i] = true
      · rw [hpi] at hp
        have hz := idxN_at hlt hn hpi
        simp (dsimp := false) [h0, h1, h7, h8, d1, hia, hrd, do_callV, hp, hz]
      · have hpf : p L[i] = false := by simpa using hpi
        rw [hpf] at hp
        simp (dsimp := false) [h0, h1, h7, h8, d1, hia, hrd, do_callV, hp, hwi]
        exact ⟨_, by omega, i + 1, rfl, by omega, by simp, fun j hj hji => if e : j = i then by subst e; exact hpf else hn j hj (by omega)⟩
    · obtain rfl : i = L.length := by omega
      have hz := idxN_out (p := p) (l := L) (fun j hj => hn j hj hj)
      simp (dsimp := false) [h7, h8, hz]
  · exact ⟨0, by simp, by simp, rfl, by simp (dsimp := false) [hg], by simp (dsimp := false) [hg], by simp, by simp, fun _ _ h => absurd h (Nat.not_lt_zero _)⟩
end Go.Proofs.YtklbbjfbcibghaaGreat
end
section
namespace Go.Proofs.YtklbbjfbcibghaaGreat
open Go.Hl
set_option maxHeartbeats 4000000
variable {C : CallT} {h : H}
theorem ports_fn {x e : En} {pe : Nat} (he : h.blks[pe]? = some ⟨e.cells, 0, 0, false⟩) : Does Tryz.prog C 106 [.agg x.cells, .ptr pe 0 0 7] h = some (.bool (decide (x.inner ≠ e.inner ∧ x.peer = e.peer ∧ x.pport = e.pport ∧ x.port = e.port)), h) := by
  have hr := fun m => at_old (m := m) he
  unfold En.cells at hr
  refine Does_eq (n := 30) (rs := [.tmp 3]) Tryz.func106 (by kernel_rfl) rfl rfl rfl (by simp) fun σ hg => ?_
  unfold En.cells at hg
  by_cases c1 : x.inner = e.inner
  · simp (dsimp := false) [hg, hr, c1]
  by_cases c2 : x.peer = e.peer
  · by_cases c3 : x.pport = e.pport
    · by_cases c4 : x.port = e.port
      · simp (dsimp := false) [hg, hr, c1, c2, c3, c4]
      · simp (dsimp := false) [hg, hr, c1, c2, c3, c4]
    · simp (dsimp := false) [hg, hr, c1, c2, c3]
  · simp (dsimp := false) [hg, hr, c1, c2]
theorem in_fn {x e : En} {pe pm : Nat} {b : Bool} (he : h.blks[pe]? = some ⟨e.cells, 0, 0, false⟩) (hm : h.blks[pm]? = some ⟨[.bool b], 0, 0, false⟩) : Does Tryz.prog C 85 [.agg x.cells, .ptr pe 0 0 7, .ptr pm 0 0 1] h =
    some (.bool (decide (x.peer = e.peer ∧ x.pport = e.pport ∧ x.port = e.port) && (if b then decide (x.out ≠ 0 ∧ x.out = e.out) else decide (x.in_ = e.in_))), h) := by
  have hr := fun m => at_old (m := m) he
  have hq := fun m => at_old (m := m) hm
  unfold En.cells at hr
  refine Does_eq (n := 40) (rs := [.tmp 4]) Tryz.func85 (by kernel_rfl) rfl rfl rfl (by simp) fun σ hg => ?_
  unfold En.cells at hg
  by_cases c1 : x.peer = e.peer
  · by_cases c2 : x.pport = e.pport
    · by_cases c3 : x.port = e.port
      · cases b with
        | true =>
          by_cases c4 : x.out = 0
          · simp (dsimp := false) [hg, hr, hq, c1, c2, c3, c4]
          · simp (dsimp := false) [hg, hr, hq, c1, c2, c3, c4]
        | false => simp (dsimp := false) [hg, hr, hq, c1, c2, c3]
      · simp (dsimp := false) [hg, hr, c1, c2, c3]
    · simp (dsimp := false) [hg, hr, c1, c2]
  · simp (dsimp := false) [hg, hr, c1]
theorem out_fn {x e : En} {pe pm : Nat} {b : Bool} (he : h.blks[pe]? = some ⟨e.cells, 0, 0, false⟩) (hm : h.blks[pm]? = some ⟨[.bool b], 0, 0, false⟩) : Does Tryz.prog C 76 [.agg x.cells, .ptr pe 0 0 7, .ptr pm 0 0 1] h =
    some (.bool (decide (x.inner = e.inner ∧ x.peer = e.peer ∧ x.pport = e.pport ∧ x.port = e.port) && (if b then decide (x.in_ = e.in_) else decide (x.out ≠ 0 ∧ x.out = e.out))), h) := by
  have hr := fun m => at_old (m := m) he
  have hq := fun m => at_old (m := m) hm
  unfold En.cells at hr
  refine Does_eq (n := 47) (rs := [.tmp 4]) Tryz.func76 (by kernel_rfl) rfl rfl rfl (by simp) fun σ hg => ?_
  unfold En.cells at hg
  by_cases c0 : x.inner = e.inner
  · by_cases c1 : x.peer = e.peer
    · by_cases c2 : x.pport = e.pport
      · by_cases c3 : x.port = e.port
        · cases b with
          | false =>
            by_cases c4 : x.out = 0
            · simp (dsimp := false) [hg, hr, hq, c0, c1, c2, c3, c4]
            · simp (dsimp := false) [hg, hr, hq, c0, c1, c2, c3, c4]
          | true => simp (dsimp := false) [hg, hr, hq, c0, c1, c2, c3]
        · simp (dsimp := false) [hg, hr, c0, c1, c2, c3]
      · simp (dsimp := false) [hg, hr, c0, c1, c2]
    · simp (dsimp := false) [hg, hr, c0, c1]
  · simp (dsimp := false) [hg, hr, c0]
theorem nattab_of {x : En} : Does Tryz.prog C 108 [.agg x.cells] h = some (.agg [.int .u32 x.peer, .int .i64 x.pport, .int .i64 x.port, .int .u32 x.in_], h) := by
  refine Does_eq (n := 12) (rs := [.cell 2 152]) Tryz.func108 (by kernel_rfl) rfl rfl rfl (by simp) fun σ hg => ?_
  unfold En.cells at hg
  simp (dsimp := false) [hg, splice]
theorem key_eql (x e : En) : binV Tryz.prog .eql 152 (.agg [.int .u32 x.peer, .int .i64 x.pport, .int .i64 x.port, .int .u32 x.in_]) (.agg [.int .u32 e.peer, .int .i64 e.pport, .int .i64 e.port, .int .u32 e.in_]) = some (.bool (x.same e)) := by
  refine eql_ints (n := 4) (by kernel_rfl) (by kernel_rfl) rfl rfl ?_
  simp (dsimp := false) [cellsEq, En.same]
  rw [Bool.eq_iff_iff]
  simp
theorem add_fn {x e : En} {pe : Nat} (he : h.blks[pe]? = some ⟨e.cells, 0, 0, false⟩) : Does Tryz.prog C 107 [.agg x.cells, .ptr pe 0 0 7] h = some (.bool (x.same e), h) := by
  have hr := fun m => at_old (m := m) he
  have h1 := fun h => nattab_of (C := C) (h := h) (x := x)
  have h2 := fun h => nattab_of (C := C) (h := h) (x := e)
  have hk := key_eql x e
  unfold En.cells at hr h1 h2
  refine Does_eq (n := 9) (rs := [.tmp 3]) Tryz.func107 (by kernel_rfl) rfl rfl rfl (by simp) fun σ hg => ?_
  unfold En.cells at hg
  simp (dsimp := false) [hg]
  refine (W_anyF (F := [(2, 1)]) (by kernel_rfl)).2 ?_
  simp (dsimp := false) [hg, hr, h1, h2, hk]
end Go.Proofs.YtklbbjfbcibghaaGreat
end
section
/-! Parameters: their bytes. -/
namespace Go.Hl
structure Pm where
  typ : Int
  val : Bs
  deriving DecidableEq, Inhabited
def Pm.cells (p : Pm) : List V := [.int .i64 p.typ, .str p.val]
theorem Pm.cells_len (p : Pm) : p.cells.length = 2 := rfl
def Pm.may (p : Pm) : Bool := decide (0 ≤ p.typ) && decide (p.typ < 65536) && decide (p.val.length ≤ 1000)
def Pm.put (p : Pm) : Bs := if p.may then filled (be2 p.typ ++ be2 (p.val.length + 4) ++ p.val) else []
def putAll (l : List Pm) : Bs := l.flatMap Pm.put
theorem filled_len (s : Bs) : (filled s).length = s.length + padN s.length := by simp [filled]
theorem Pm.put_len (p : Pm) : p.put.length ≤ 1007 := by
  unfold Pm.put
  split
  · rename_i h
    simp only [Pm.may, Bool.and_eq_true, decide_eq_true_eq] at h
    have := padN_lt (be2 p.typ ++ be2 (p.val.length + 4) ++ p.val).length
    rw [filled_len]
    simp only [List.length_append, be2_len] at this ⊢
    omega
  · simp
theorem putAll_len (l : List Pm) : (putAll l).length ≤ l.length * 1007 := by
  induction l with
  | nil => simp [putAll]
  | cons p l ih =>
    have := p.put_len
    simp only [putAll, List.flatMap_cons, List.length_append, List.length_cons] at ih ⊢
    omega
theorem putAll_take {l : List Pm} {i : Nat} (h : i < l.length) : putAll (l.take (i + 1)) = putAll (l.take i) ++ (l[i]).put := by
  unfold putAll
  rw [List.take_succ_eq_append_getElem h, List.flatMap_append]
  simp only [List.flatMap_cons, List.flatMap_nil, List.append_nil]
/-- A parameter that is taken; the reader then. -/
def tkParam (r : RS) : Pm × RS :=
  let r2 := (r.tk 2).tk 2
  let n : Int := ((r.tk 2).num 2 : Int) - 4
  let r3 := if r2.e = 0 ∧ (n < 0 ∨ 1000 < n) then r2.fail 3 else r2
  let r4 := r3.tk n
  if r4.e ≠ 0 then (⟨0, []⟩, r4) else
  let r5 := if r4.left < (-n) % 4 then r4.fail 2 else r4
  let r6 := r5.fill n
  if r6.e ≠ 0 then (⟨0, []⟩, r6) else (⟨r.num 2, r3.got n⟩, r6)
def allLoop : Nat → RS → List Pm → RS × List Pm
  | 0, r, out => (r, out)
  | k + 1, r, out => if 0 < r.left then if out.length = 16 then (r.fail 5, out) else allLoop k (tkParam r).2 (out ++ [(tkParam r).1]) else (r, out)
/-- The parameters of bytes; the error. -/
def allP (s : Bs) : List Pm × Int :=
  let x := allLoop 17 ⟨s, 0⟩ []
  if x.1.e ≠ 0 then ([], x.1.e) else (x.2, 0)
end Go.Hl
end
section
/-! Chunks: their values, their bytes, what is read. -/
namespace Go.Hl
structure Ck where
  typ : Int
  flags : Int
  tsn : Int
  stream : Int
  ssn : Int
  proto : Int
  data : Bs
  tag : Int
  rwnd : Int
  out : Int
  inn : Int
  params : List Pm
  causes : List Pm
  gaps : List (Int × Int)
  dups : List Int
  deriving DecidableEq, Inhabited
def Ck.cells (c : Ck) (vp vc vg vd : V) : List V :=
  [.int .i64 c.typ, .int .i64 c.flags, .int .u32 c.tsn, .int .i64 c.stream, .int .i64 c.ssn, .int .u32 c.proto, .str c.data, .int .u32 c.tag, .int .u32 c.rwnd, .int .i64 c.out, .int .i64 c.inn, vp, vc, vg, vd]
def gapCells (g : Int × Int) : List V := [.int .i64 g.1, .int .i64 g.2]
def dupCells (d : Int) : List V := [.int .u32 d]
theorem gapCells_len (g : Int × Int) : (gapCells g).length = 2 := rfl
theorem dupCells_len (d : Int) : (dupCells d).length = 1 := rfl
structure CkIs (h : H) (c : Ck) (vp vc vg vd : V) : Prop where
  sp : Sl h 2 c.params.length (c.params.flatMap Pm.cells) vp
  sc : Sl h 2 c.causes.length (c.causes.flatMap Pm.cells) vc
  sg : Sl h 2 c.gaps.length (c.gaps.flatMap gapCells) vg
  sd : Sl h 1 c.dups.length (c.dups.flatMap dupCells) vd
theorem Sl.facts {h : H} {z n : Nat} {cs : List V} {v : V} (s : Sl h z n cs v) : V.cellOk v = true ∧ V.isU v = false ∧ V.cells v = [v] ∧ V.under h.blks.length v = true ∧ V.upto h.blks.length v = [] ∧ ∀ k, V.upto (h.blks.length + k) v = [] := by
  rcases s with ⟨rfl, -⟩ | ⟨b, off, ver, lim, k, rfl, hb, -⟩
  · simp [V.cellOk]
  · have := lt_of_some hb
    refine ⟨rfl, rfl, rfl, by simpa using this, by simp [V.upto, this], fun k => ?_⟩
    simp only [V.upto]
    rw [if_pos (by omega)]
theorem CkIs.facts {h : H} {c : Ck} {vp vc vg vd : V} (s : CkIs h c vp vc vg vd) : (V.cellOk vp = true ∧ V.isU vp = false ∧ V.cells vp = [vp] ∧ V.under h.blks.length vp = true ∧ V.upto h.blks.length vp = [] ∧ ∀ k, V.upto (h.blks.length + k) vp = []) ∧
    (V.cellOk vc = true ∧ V.isU vc = false ∧ V.cells vc = [vc] ∧ V.under h.blks.length vc = true ∧ V.upto h.blks.length vc = [] ∧ ∀ k, V.upto (h.blks.length + k) vc = []) ∧
    (V.cellOk vg = true ∧ V.isU vg = false ∧ V.cells vg = [vg] ∧ V.under h.blks.length vg = true ∧ V.upto h.blks.length vg = [] ∧ ∀ k, V.upto (h.blks.length + k) vg = []) ∧
    (V.cellOk vd = true ∧ V.isU vd = false ∧ V.cells vd = [vd] ∧ V.under h.blks.length vd = true ∧ V.upto h.blks.length vd = [] ∧ ∀ k, V.upto (h.blks.length + k) vd = []) := ⟨s.sp.facts, s.sc.facts, s.sg.facts, s.sd.facts⟩
theorem CkIs.keep {h h' : H} {c : Ck} {vp vc vg vd : V} (s : CkIs h c vp vc vg vd) (k : Keeps h h') : CkIs h' c vp vc vg vd := ⟨k _ _ _ _ s.sp, k _ _ _ _ s.sc, k _ _ _ _ s.sg, k _ _ _ _ s.sd⟩
theorem CkIs.blks {h h' : H} {c : Ck} {vp vc vg vd : V} (s : CkIs h c vp vc vg vd) (hb : h.blks = h'.blks) : CkIs h' c vp vc vg vd := ⟨s.sp.blks hb, s.sc.blks hb, s.sg.blks hb, s.sd.blks hb⟩
@[simp] theorem upto_sl {n b o m v z : Nat} {l : Bool} : V.upto n (.sl b o m v z l) = if b < n then [] else [b] := by unfold V.upto; rfl

theorem CkIs.app {l : List Blk} {es es' : List (Nat × Nat)} {c : Ck} {vp vc vg vd : V} (s : CkIs ⟨l, es⟩ c vp vc vg vd) (m : List Blk) : CkIs ⟨l ++ m, es'⟩ c vp vc vg vd := ⟨s.sp.app, s.sc.app, s.sg.app, s.sd.app⟩
def knownT (t : Int) : Bool := (decide (0 ≤ t) && decide (t ≤ 11)) || decide (t = 14) || decide (t = 15) || decide (t = 193) || decide (t = 128) || decide (t = 130)
def flagsT (t : Int) : Int := if t = 0 then 7 else if t = 6 ∨ t = 9 then 3 else if t = 14 then 1 else if knownT t then 0 else 255
def risingL (last : Int) : List (Int × Int) → Bool
  | [] => true
  | g :: l => if g.1 < last + 2 ∨ g.2 < g.1 ∨ 65536 ≤ g.2 then false else risingL g.2 l
def rising (l : List (Int × Int)) : Bool := risingL 0 l && decide (l.length ≤ 16)
theorem flat_take {α β : Type} {f : α → List β} {l : List α} {i : Nat} (h : i < l.length) : (l.take (i + 1)).flatMap f = (l.take i).flatMap f ++ f l[i] := by
  rw [List.take_succ_eq_append_getElem h, List.flatMap_append]
  simp
theorem flat_le {α β : Type} {f : α → List β} {n : Nat} (hf : ∀ a, (f a).length ≤ n) (l : List α) : (l.flatMap f).length ≤ l.length * n := by
  induction l with
  | nil => simp
  | cons a l ih =>
    have := hf a
    simp only [List.flatMap_cons, List.length_append, List.length_cons, Nat.add_mul]
    omega
def gapsF (l : List (Int × Int)) : Bs := l.flatMap fun g => be2 g.1 ++ be2 g.2
def dupsF (l : List Int) : Bs := l.flatMap be4
theorem gapsF_take {l : List (Int × Int)} {i : Nat} (h : i < l.length) : gapsF (l.take (i + 1)) = gapsF (l.take i) ++ (be2 (l[i]).1 ++ be2 (l[i]).2) := flat_take h
theorem dupsF_take {l : List Int} {i : Nat} (h : i < l.length) : dupsF (l.take (i + 1)) = dupsF (l.take i) ++ be4 l[i] := flat_take h
theorem gapsF_len (l : List (Int × Int)) : (gapsF l).length ≤ l.length * 4 := flat_le (fun g => by simp [be2_len]) l
theorem dupsF_len (l : List Int) : (dupsF l).length ≤ l.length * 4 := flat_le (fun g => by simp [be4_len]) l
def gapsB (c : Ck) : Bs := be2 c.gaps.length ++ be2 c.dups.length ++ gapsF c.gaps ++ dupsF c.dups
def isInit (t : Int) : Bool := decide (t = 1) || decide (t = 2)
def isErr (t : Int) : Bool := decide (t = 6) || decide (t = 9)
def isConf (t : Int) : Bool := decide (t = 193) || decide (t = 128) || decide (t = 130)
def isBare (t : Int) : Bool := decide (t = 8) || decide (t = 11) || decide (t = 14)
def isBeat (t : Int) : Bool := decide (t = 4) || decide (t = 5)
def Ck.body (c : Ck) : Bs :=
  if c.typ = 0 then be4 c.tsn ++ be2 c.stream ++ be2 c.ssn ++ be4 c.proto ++ c.data
  else if isInit c.typ then be4 c.tag ++ be4 c.rwnd ++ be2 c.out ++ be2 c.inn ++ be4 c.tsn ++ putAll c.params
  else if c.typ = 3 then be4 c.tsn ++ be4 c.rwnd ++ gapsB c
  else if isBeat c.typ then Pm.put ⟨1, c.data⟩
  else if isErr c.typ then putAll c.causes
  else if c.typ = 7 then be4 c.tsn
  else if isConf c.typ then be4 c.tsn ++ putAll c.params
  else if isBare c.typ then []
  else if c.typ = 15 then be2 c.stream ++ be2 c.ssn ++ c.data
  else c.data
def kindP (t : Int) : Bool := isInit t || isConf t
def kindC (t : Int) : Bool := isErr t
def kindG (t : Int) : Bool := decide (t = 3)
def word (n : Int) : Bool := decide (0 ≤ n) && decide (n < 65536)
def Ck.lists (c : Ck) : Bool := c.params.all Pm.may && c.causes.all Pm.may && decide (c.params.length ≤ 16) && decide (c.causes.length ≤ 16)
/-- Just what those of its type have. -/
def Ck.plain (c : Ck) : Ck :=
  let z : Ck := ⟨c.typ, c.flags, 0, 0, 0, 0, [], 0, 0, 0, 0, [], [], [], []⟩
  if c.typ = 0 then { z with tsn := c.tsn, stream := c.stream, ssn := c.ssn, proto := c.proto, data := c.data }
  else if isInit c.typ then { z with tag := c.tag, rwnd := c.rwnd, out := c.out, inn := c.inn, tsn := c.tsn, params := c.params }
  else if c.typ = 3 then { z with tsn := c.tsn, rwnd := c.rwnd, gaps := c.gaps, dups := c.dups }
  else if isErr c.typ then { z with causes := c.causes }
  else if c.typ = 7 then { z with tsn := c.tsn }
  else if isConf c.typ then { z with tsn := c.tsn, params := c.params }
  else if isBare c.typ then z
  else if c.typ = 15 then { z with stream := c.stream, ssn := c.ssn, data := c.data }
  else { z with data := c.data }
def Ck.same (a b : Ck) : Bool := decide (a.tsn = b.tsn ∧ a.stream = b.stream ∧ a.ssn = b.ssn ∧ a.proto = b.proto ∧ a.data = b.data ∧ a.tag = b.tag ∧ a.rwnd = b.rwnd ∧ a.out = b.out ∧ a.inn = b.inn ∧ a.params.length = b.params.length ∧ a.causes.length = b.causes.length ∧ a.gaps.length = b.gaps.length ∧ a.dups.length = b.dups.length)
/-- The flags' bits that may not be. -/
def oddBits (f t : Int) : Int := ((BitVec.ofInt 64 f &&& ~~~ BitVec.ofInt 64 (flagsT t)).toNat : Int)
def Ck.may (c : Ck) : Bool :=
  decide (0 ≤ c.typ) && decide (c.typ ≤ 255) && decide (0 ≤ c.flags) && decide (IntKind.i64.wrap (oddBits c.flags c.typ) = 0) && c.lists &&
  (word c.stream && word c.ssn && word c.out && word c.inn && decide (c.data.length ≤ 900) && rising c.gaps && decide (c.dups.length ≤ 16)) &&
  !(isInit c.typ && decide (c.tag = 0)) && decide (c.body.length ≤ 65531) && c.same c.plain
def Ck.put (c : Ck) : Bs := if c.may then filled ([b8 c.typ, b8 c.flags] ++ be2 (c.body.length + 4) ++ c.body) else []
/-- The first blocks are others: what lies behind them is read as before. -/
theorem swap_pre {p p' m : List Blk} {es es' : List (Nat × Nat)} {z n : Nat} {cs : List V} {v : V} (hp : p'.length = p.length) (hs : Sl ⟨p ++ m, es⟩ z n cs v) (ho : Hi p.length v) : Sl ⟨p' ++ m, es'⟩ z n cs v := by
  rcases hs with hs | ⟨b, off, ver, lim, k, rfl, hk, h3⟩
  · exact .inl hs
  · have := ho _ _ _ _ _ _ rfl
    obtain ⟨j, rfl⟩ : ∃ j, b = p.length + j := ⟨b - p.length, by omega⟩
    refine .inr ⟨_, off, ver, lim, k, rfl, ?_, h3⟩
    rw [at_add] at hk
    rw [← hp, at_add]
    exact hk
theorem CkIs.pre {p p' m : List Blk} {es es' : List (Nat × Nat)} {c : Ck} {vp vc vg vd : V} (hp : p'.length = p.length) (hS : CkIs ⟨p ++ m, es⟩ c vp vc vg vd) (hH : ∀ v ∈ [vp, vc, vg, vd], Hi p.length v) : CkIs ⟨p' ++ m, es'⟩ c vp vc vg vd :=
  ⟨swap_pre hp hS.sp (hH _ (by simp)), swap_pre hp hS.sc (hH _ (by simp)), swap_pre hp hS.sg (hH _ (by simp)), swap_pre hp hS.sd (hH _ (by simp))⟩
/-- As 'Sl.at', with the fields of an element. -/
theorem Sl.atF {α : Type} {f : α → List V} {z : Nat} {l : List α} {h : H} {v : V} (hs : Sl h z l.length (l.flatMap f) v) (hf : ∀ a, (f a).length = z) : ∃ (p : Nat → V) (pf : Nat → Nat → V),
    (∀ i, i < l.length → ∀ n b m zz et eb, indexAddrV ⟨n, b, m, zz, .slice et z eb⟩ v (.int .i64 i) = some (p i)) ∧
    (∀ i (hi : i < l.length), ∀ h', Ext h h' → ∀ n zz ty, readV ⟨z, true, n, zz, ty⟩ (p i) h' = some (.agg (f l[i]))) ∧
    (∀ i, i < l.length → ∀ n b m zz fs k, fieldAddrV ⟨n, b, m, zz, .struct fs⟩ (p i) k = fs[k]?.map fun q => pf i q.1) ∧
    (∀ i (hi : i < l.length), ∀ j, j < z → ∀ h', Ext h h' → ∀ n zz ty, readV ⟨1, false, n, zz, ty⟩ (pf i j) h' = (f l[i])[j]?) := by
  rcases hs with ⟨rfl, h0, -⟩ | ⟨b, off, ver, lim, k, rfl, hb, h1, h2, h3, h4⟩
  · exact ⟨fun _ => .nilp, fun _ _ => .nilp, fun i hi => by omega, fun i hi => by omega, fun i hi => by omega, fun i hi => by omega⟩
  · have key : ∀ i (hi : i < l.length), (k.cells.drop (off + i * z)).take z = f l[i] := fun i hi => by
      have := flat_at hf l i hi
      rw [← h3, List.drop_take, List.take_take, List.drop_drop] at this
      rw [← this]
      congr 1
      have : (i + 1) * z ≤ l.length * z := Nat.mul_le_mul_right _ (by omega)
      rw [Nat.add_mul] at this
      omega
    refine ⟨fun i => .ptr b (off + i * z) ver (off + i * z + z), fun i j => .ptr b (off + i * z + j) ver (off + i * z + z), fun i hi n b' m zz et eb => ?_, fun i hi h' hx n zz ty => ?_, fun i hi n b' m zz fs c => ?_, fun i hi j hj h' hx n zz ty => ?_⟩
    · have : (0 ≤ (i : Int) ∧ (i : Int) < l.length) := by omega
      simp [indexAddrV, idxLt, this]
    · simp only [readV, H.read, hx.get hb, h1, h2, and_self, if_true, key i hi]
      simp
    · simp only [fieldAddrV]
      cases fs[c]? <;> rfl
    · have e : ((k.cells.drop (off + i * z + j)).take 1).head? = (f l[i])[j]? := by
        rw [← key i hi, List.getElem?_take, if_pos hj, List.getElem?_drop, List.head?_eq_getElem?, List.getElem?_take, if_pos (by decide), List.getElem?_drop]
        rfl
      simp only [readV, H.read, hx.get hb, h1, h2, and_self, if_true, e]
      rw [if_pos (by omega)]
      rfl
end Go.Hl
end
section
namespace Go.Proofs.YtklbbjfbcibghaaGreat
open Go.Hl
set_option maxHeartbeats 4000000
variable {C : CallT} {h : H}
/-- A table in memory: its block, and that of its entries, if there are any. -/
def Tab (l : List Blk) (bt : Nat) (most : Int) (L : List En) : Option Nat → Prop
  | none => l[bt]? = some ⟨[.int .i64 most, .nils], 0, 0, false⟩ ∧ L = []
  | some b => b ≠ bt ∧ ∃ g va, va ≤ g ∧ l[bt]? = some ⟨[.int .i64 most, .sl b 0 L.length g 7 false], 0, 0, false⟩ ∧ l[b]? = some ⟨L.flatMap En.cells, g, va, false⟩
theorem Tab.lv {l : List Blk} {bt : Nat} {most : Int} {L : List En} {lb : Option Nat} (hT : Tab l bt most L lb) : ∃ v, l[bt]? = some ⟨[.int .i64 most, v], 0, 0, false⟩ ∧ ∀ es, Sl ⟨l, es⟩ 7 L.length (L.flatMap En.cells) v := by
  cases lb with
  | none =>
    obtain ⟨h1, rfl⟩ := hT
    exact ⟨_, h1, fun es => Sl.nil _ 7⟩
  | some b =>
    obtain ⟨-, g, va, h0, h1, h2⟩ := hT
    exact ⟨_, h1, fun es => .inr ⟨_, _, _, _, _, rfl, h2, h0, Nat.le_refl g, by rw [List.drop_zero, List.take_of_length_le (by rw [flat_len En.cells_len]; exact Nat.le_refl _)], by rw [flat_len En.cells_len]⟩⟩
theorem slices_Contains {L : List En} {v F : V} {g : FuncId} {first caps : List V} {p : En → Bool} (hs : Sl h 7 L.length (L.flatMap En.cells) v) (hF : F = .fn (.func g) first caps) (hp : ∀ e ∈ L, Does Tryz.prog C g (first ++ [.agg e.cells] ++ caps) ⟨h.blks, []⟩ = some (.bool (p e), ⟨h.blks, []⟩)) (hl : L.length ≤ 1000000) :
    Does Tryz.prog C 105 [v, F] h = some (.bool (decide (0 ≤ idxN p L)), h) := by
  have h1 := slices_Index (C := C) (h := ⟨h.blks, []⟩) (hs.blks rfl) hF hp hl
  have h2 := idxN_lt p L
  refine Does_eq (n := 9) (rs := [.tmp 4]) Tryz.func105 (by kernel_rfl) rfl rfl rfl (by simp) fun σ hg => ?_
  simp (dsimp := false) [hg, h1]
variable {l : List Blk} {es : List (Nat × Nat)} {bt : Nat} {most : Int} {L : List En} {lb : Option Nat}
theorem nattab_Ports {e : En} (hT : Tab l bt most L lb) (hl : L.length ≤ 1000000) : Does Tryz.prog C 72 [.ptr bt 0 0 2, .agg e.cells] ⟨l, es⟩ = some (.bool (portsN L e), ⟨l, es⟩) := by
  obtain ⟨v, hv, hs⟩ := hT.lv
  have hr := fun m => at_old (m := m) hv
  have hf := (hs []).facts
  have hC := slices_Contains (C := C) (h := ⟨l ++ [⟨e.cells, 0, 0, false⟩], []⟩) (first := []) (g := 106) (Sl.app (hs [])) rfl (fun x _ => ports_fn (C := C) (h := ⟨l ++ [⟨e.cells, 0, 0, false⟩], []⟩) (x := x) (e := e) (pe := l.length) (by simp)) hl
  have hb := lt_of_some hv
  refine Does_eq (n := 15) (rs := [.tmp 4]) Tryz.func72 (by kernel_rfl) rfl rfl rfl (by simp) fun σ hg => ?_
  unfold En.cells at hg hC
  unfold portsN
  simp (dsimp := false) [hg, hr, do_makeFunc, hC]
theorem nattab_Inward {e : En} {b : Bool} (hT : Tab l bt most L lb) (hl : L.length ≤ 1000000) : Does Tryz.prog C 48 [.ptr bt 0 0 2, .agg e.cells, .bool b] ⟨l, es⟩ = some (.int .i64 (inN L e b), ⟨l, es⟩) := by
  obtain ⟨v, hv, hs⟩ := hT.lv
  have hr := fun m => at_old (m := m) hv
  have hf := (hs []).facts
  have hC := slices_Index (C := C) (h := ⟨l ++ [⟨e.cells, 0, 0, false⟩, ⟨[.bool b], 0, 0, false⟩], []⟩) (first := []) (g := 85) (Sl.app (hs [])) rfl (fun x _ => in_fn (C := C) (h := ⟨l ++ [⟨e.cells, 0, 0, false⟩, ⟨[.bool b], 0, 0, false⟩], []⟩) (x := x) (e := e) (b := b) (pe := l.length) (pm := l.length + 1) (by simp) (by simp)) hl
  refine Does_eq (n := 15) (rs := [.tmp 6]) Tryz.func48 (by kernel_rfl) rfl rfl rfl (by simp) fun σ hg => ?_
  unfold En.cells at hg hC
  unfold inN
  simp (dsimp := false) [hg, hr, do_makeFunc, hC]
theorem nattab_Outward {e : En} {b : Bool} (hT : Tab l bt most L lb) (hl : L.length ≤ 1000000) : Does Tryz.prog C 39 [.ptr bt 0 0 2, .agg e.cells, .bool b] ⟨l, es⟩ = some (.int .i64 (outN L e b), ⟨l, es⟩) := by
  obtain ⟨v, hv, hs⟩ := hT.lv
  have hr := fun m => at_old (m := m) hv
  have hf := (hs []).facts
  have hC := slices_Index (C := C) (h := ⟨l ++ [⟨e.cells, 0, 0, false⟩, ⟨[.bool b], 0, 0, false⟩], []⟩) (first := []) (g := 76) (Sl.app (hs [])) rfl (fun x _ => out_fn (C := C) (h := ⟨l ++ [⟨e.cells, 0, 0, false⟩, ⟨[.bool b], 0, 0, false⟩], []⟩) (x := x) (e := e) (b := b) (pe := l.length) (pm := l.length + 1) (by simp) (by simp)) hl
  refine Does_eq (n := 15) (rs := [.tmp 6]) Tryz.func39 (by kernel_rfl) rfl rfl rfl (by simp) fun σ hg => ?_
  unfold En.cells at hg hC
  unfold outN
  simp (dsimp := false) [hg, hr, do_makeFunc, hC]
theorem nattab_At {n : Nat} {e : En} (hT : Tab l bt most L lb) (hn : L[n]? = some e) : Does Tryz.prog C 50 [.ptr bt 0 0 2, .int .i64 n] ⟨l, es⟩ = some (.agg e.cells, ⟨l, es⟩) := by
  obtain ⟨v, hv, hs⟩ := hT.lv
  have hr := fun m => at_old (m := m) hv
  have hf := (hs []).facts
  have hlen := (hs []).len Tryz.underlying51
  obtain ⟨q, hia, hrd, -⟩ := (hs []).at En.cells_len
  obtain ⟨hlt, he⟩ := List.getElem?_eq_some_iff.1 hn
  have hia := hia n hlt
  have hrd := fun m => hrd n hlt ⟨l ++ m, []⟩ ⟨m, [], by simp, by simp⟩
  rw [he] at hrd
  have d1 := eq_false (show ¬ ((L.length : Int) ≤ (n : Int)) by omega)
  have d2 := eq_false (show ¬ (L.length ≤ n) by omega)
  unfold En.cells at hrd ⊢
  refine Does_eq (n := 28) (rs := [.cell 4 56]) Tryz.func50 (by kernel_rfl) rfl rfl rfl (by simp) fun σ hg => ?_
  simp (dsimp := false) [hg, hr, hlen, hia, hrd, d1, splice]
theorem nattab_New {m : Int} : Does Tryz.prog C 27 [.int .i64 m] h = some (.ptr h.blks.length 0 0 2, ⟨h.blks ++ [⟨[.int .i64 (if 256 < (if m < 0 then 0 else m) then 256 else (if m < 0 then 0 else m)), .nils], 0, 0, false⟩], h.esc⟩) := by
  refine Does_eq (n := 8) (rs := [.tmp 2]) Tryz.func27 (by kernel_rfl) rfl rfl rfl (by simp) fun σ hg => ?_
  simp (dsimp := false) [hg, splice]
end Go.Proofs.YtklbbjfbcibghaaGreat
end
section
namespace Go.Proofs.YtklbbjfbcibghaaGreat
open Go.Hl
set_option maxHeartbeats 4000000
variable {C : CallT} {l : List Blk} {es : List (Nat × Nat)} {bt : Nat} {most : Int} {L : List En} {lb : Option Nat}
/-- What a call leaves of the blocks that were there: all but the table's. -/
def Kept (l l' : List Blk) (bt : Nat) (lb lb' : Option Nat) : Prop :=
  l.length ≤ l'.length ∧ (∀ b, b < l.length → b ≠ bt → lb ≠ some b → l'[b]? = l[b]?) ∧ (lb' = lb ∨ ∃ b, lb' = some b ∧ l.length ≤ b)
theorem Kept.refl : Kept l l bt lb lb := ⟨Nat.le_refl _, fun _ _ _ _ => rfl, .inl rfl⟩
theorem splice_at : ∀ (L : List En) (i : Nat) {x y : En} {k : Nat} {v : V}, L[i]? = some x → k < 7 → y.cells = splice x.cells k [v] → splice (L.flatMap En.cells) (i * 7 + k) [v] = (L.set i y).flatMap En.cells
  | [], i, x, y, k, v, h, _, _ => by simp at h
  | a :: L, 0, x, y, k, v, h, hk, hy => by
    simp only [List.getElem?_cons_zero, Option.some.injEq] at h
    subst h
    rw [List.set_cons_zero, List.flatMap_cons, List.flatMap_cons, hy]
    have hl : a.cells.length = 7 := rfl
    unfold splice
    simp only [Nat.zero_mul, Nat.zero_add, List.length_cons, List.length_nil]
    rw [List.take_append_of_le_length (by omega), List.drop_append_of_le_length (by omega)]
    simp
  | a :: L, i + 1, x, y, k, v, h, hk, hy => by
    rw [List.set_cons_succ, List.flatMap_cons, List.flatMap_cons]
    have ih := splice_at L i (by simpa using h) hk hy
    have hl : a.cells.length = 7 := rfl
    rw [← ih]
    unfold splice
    simp only [List.length_cons, List.length_nil, Nat.zero_add]
    have e1 : (i + 1) * 7 + k = a.cells.length + (i * 7 + k) := by omega
    have e2 : (i + 1) * 7 + k + 1 = a.cells.length + (i * 7 + k + 1) := by omega
    rw [e2, e1, List.take_length_add_append, List.drop_length_add_append]
    simp
theorem cell_at : ∀ (L : List En) (i : Nat) {x : En} {k : Nat}, L[i]? = some x → k < 7 → (((L.flatMap En.cells).drop (i * 7 + k)).take 1).head? = x.cells[k]?
  | [], i, x, k, h, _ => by simp at h
  | a :: L, 0, x, k, h, hk => by
    simp only [List.getElem?_cons_zero, Option.some.injEq] at h
    subst h
    have hl : a.cells.length = 7 := rfl
    rw [List.flatMap_cons, Nat.zero_mul, Nat.zero_add, List.drop_append_of_le_length (by omega)]
    have e : a.cells.drop k = a.cells[k] :: a.cells.drop (k + 1) := List.drop_eq_getElem_cons (by omega)
    rw [e, List.getElem?_eq_getElem (show k < a.cells.length by omega)]
    rfl
  | a :: L, i + 1, x, k, h, hk => by
    have hl : a.cells.length = 7 := rfl
    have e1 : (i + 1) * 7 + k = a.cells.length + (i * 7 + k) := by omega
    rw [List.flatMap_cons, e1, List.drop_length_add_append]
    exact cell_at L i (by simpa using h) hk
theorem append_nils {l : List Blk} {es : List (Nat × Nat)} {ys : List V} {esz eb j : Nat} (hj : l[j]? = some ⟨ys, 0, 0, false⟩) (hy : ys.length = esz) (hz : 0 < esz) (hok : ys.all V.cellOk = true) (h1 : eb ≤ 70368744177664) :
    appendV esz eb ⟨l, es⟩ .nils (.sl j 0 1 0 esz false) = some (.sl l.length 0 1 0 esz false, (⟨l, es⟩ : H).new ys) := by
  have hr : H.read ⟨l, es⟩ j 0 0 esz = some ys := by
    simp only [H.read, hj]
    rw [if_pos ⟨Nat.le_refl _, Nat.le_refl _⟩, List.drop_zero, List.take_of_length_le (Nat.le_of_eq hy)]
  have e1 : 1 * esz = esz := Nat.one_mul _
  simp only [appendV, sourceOf, if_true, e1, hr, Option.map_some, lenV, appendTo]
  simp (dsimp := false) [hok, H.size, hz, h1]
theorem leave_out {h : H} {l' : List Blk} {es' : List (Nat × Nat)} {v : V} {e : Nat × Nat} (he : e ∈ es') (h1 : e.1 < h.size) (h2 : h.size ≤ e.2) : leave h ⟨l', es'⟩ v = ⟨l', h.esc ++ es'⟩ := by
  unfold leave
  rw [if_neg]
  intro hc
  rw [Bool.and_eq_true, List.all_eq_true] at hc
  have := hc.2 e he
  simp at this
  omega
/-- One element more, in a block that is known. -/
theorem append_atV {l : List Blk} {es : List (Nat × Nat)} {cs ys : List V} {k g va esz eb b j : Nat} (hb : l[b]? = some ⟨cs, g, va, false⟩) (hj : l[j]? = some ⟨ys, 0, 0, false⟩) (hc : cs.length = k * esz) (hy : ys.length = esz) (hz : 0 < esz) (hok : ys.all V.cellOk = true)
    (h1 : (k + 1) * eb ≤ 70368744177664) (h2 : k + 1 ≤ 70368744177664) :
    appendV esz eb ⟨l, es⟩ (.sl b 0 k g esz false) (.sl j 0 1 0 esz false) = some (.sl b 0 (k + 1) (g + 1) esz false, ⟨l.set b ⟨cs ++ ys, g + 1, va, false⟩, es ++ escs b ys⟩) := by
  have hr : H.read ⟨l, es⟩ j 0 0 esz = some ys := by
    simp only [H.read, hj]
    rw [if_pos ⟨Nat.le_refl _, Nat.le_refl _⟩, List.drop_zero, List.take_of_length_le (Nat.le_of_eq hy)]
  have e1 : 1 * esz = esz := Nat.one_mul _
  have e2 : 0 + k * esz = cs.length := by omega
  simp only [appendV, sourceOf, if_true, e1, hr, Option.map_some, lenV_sl, appendTo, hb, e2, H.grow]
  rw [if_neg (by decide), if_pos ⟨hz, h1, h2⟩]
  simp (dsimp := false) [hok]
theorem leave_in {l l' m : List Blk} {es es' : List (Nat × Nat)} {v : V} (hl : l'.length = l.length) (hv : V.under l.length v = true) (he : ∀ e ∈ es', e.2 < l.length) : leave ⟨l, es⟩ ⟨l' ++ m, es'⟩ v = ⟨l', es ++ es'.filter fun x => decide (x.1 < l.length)⟩ := by
  unfold leave
  rw [if_pos]
  · show ({ blks := (l' ++ m).take l.length, esc := _ } : H) = _
    rw [← hl, List.take_left' rfl]
    simp (dsimp := false) [H.size, hl]
    rfl
  · rw [Bool.and_eq_true, List.all_eq_true]
    refine ⟨hv, fun e h => ?_⟩
    simp only [H.size, Bool.or_eq_true]
    exact .inr (decide_eq_true (he e h))
def AddPost (l : List Blk) (es : List (Nat × Nat)) (bt : Nat) (most : Int) (lb : Option Nat) (r : Int × List En) (x : V × H) : Prop :=
  ∃ l' es' lb', x = (.int .i64 r.1, ⟨l', es ++ es'⟩) ∧ Tab l' bt most r.2 lb' ∧ Kept l l' bt lb lb' ∧ ∀ b, lb' = some b → b < l.length ∨ (bt, b) ∈ es'
set_option maxRecDepth 100000 in
theorem nattab_Add {e : En} (hT : Tab l bt most L lb) (hl : L.length ≤ 100000) (_hm : most ≤ 100000) : Ok (Does Tryz.prog C 73 [.ptr bt 0 0 2, .agg e.cells] ⟨l, es⟩) (AddPost l es bt most lb (addN L most e)) := by
  obtain ⟨v, hv, hs⟩ := hT.lv
  have hbt := lt_of_some hv
  have hr := fun m => at_old (m := m) hv
  have hf := (hs []).facts
  have hlen := (hs []).len Tryz.underlying51
  have hC := slices_Index (C := C) (h := ⟨l ++ [⟨e.cells, 0, 0, false⟩], []⟩) (first := []) (g := 107) (Sl.app (hs [])) rfl (fun x _ => add_fn (C := C) (h := ⟨l ++ [⟨e.cells, 0, 0, false⟩], []⟩) (x := x) (e := e) (pe := l.length) (by simp)) (by omega)
  have hlb : ∀ b, lb = some b → b < l.length := fun b hb => by
    subst hb
    obtain ⟨-, g, va, -, -, h2⟩ := hT
    exact lt_of_some h2
  unfold En.cells at hC
  refine Does_wp (n := 80) (rs := [.tmp 4]) Tryz.func73 (by kernel_rfl) rfl rfl rfl (by simp) fun σ hg => ?_
  unfold En.cells at hg
  by_cases c0 : e.in_ = 0
  · have ha : addN L most e = (1, L) := by
      unfold addN
      rw [if_pos c0]
    rw [ha]
    simp (dsimp := false) [hg, c0]
    exact ⟨l, [], lb, by simp, hT, Kept.refl, fun b hb => .inl (hlb b hb)⟩
  by_cases ci : 0 ≤ idxN (fun x => x.same e) L
  · obtain ⟨n, hn⟩ : ∃ n : Nat, idxN (fun x => x.same e) L = n := ⟨(idxN (fun x => x.same e) L).toNat, by omega⟩
    obtain ⟨x, hx, -⟩ := idxN_some _ _ n hn
    have hnl := (List.getElem?_eq_some_iff.1 hx).1
    have hxx := (List.getElem?_eq_some_iff.1 hx).2
    have hgD : L.getD ((n : Int).toNat) e = x := by
      rw [Int.toNat_natCast, List.getD_eq_getElem?_getD, hx]
      rfl
    obtain ⟨b, rfl⟩ : ∃ b, lb = some b := by
      cases lb with
      | none =>
        obtain ⟨-, h2⟩ := hT
        subst h2
        simp at hnl
      | some b => exact ⟨b, rfl⟩
    obtain ⟨hbb, g, va, hva, hT1, hT2⟩ := hT
    have hbl := lt_of_some hT2
    obtain rfl : v = .sl b 0 L.length g 7 false := by
      rw [hv] at hT1
      simpa using hT1
    have hb := fun m => at_old (m := m) hT2
    have hLl : (L.flatMap En.cells).length = L.length * 7 := flat_len En.cells_len L
    rw [hn] at hC
    have k0 := cell_at L n hx (show 0 < 7 by decide)
    simp (dsimp := false) [En.cells] at k0
    by_cases cx : x.inner = e.inner
    · have ha : addN L most e = (0, L.set n { x with seen := e.seen, out := if e.out ≠ 0 then e.out else x.out }) := by
        unfold addN
        rw [if_neg c0]
        simp only [hn]
        rw [if_pos (by omega), hgD, if_neg (fun h => h cx), Int.toNat_natCast]
      have hx1 : (L.set n { x with seen := e.seen })[n]? = some { x with seen := e.seen } := List.getElem?_set_self hnl
      have s1 := splice_at L n (y := { x with seen := e.seen }) (k := 6) (v := .int .i64 e.seen) hx (by decide) rfl
      have s2 := splice_at (L.set n { x with seen := e.seen }) n (y := { x with seen := e.seen, out := e.out }) (k := 5) (v := .int .u32 e.out) hx1 (by decide) rfl
      rw [List.set_set] at s2
      have z1 : ((L.set n { x with seen := e.seen }).flatMap En.cells).length = L.length * 7 := by rw [flat_len En.cells_len, List.length_set]
      have w1 : ∀ m X, (l ++ m).set b X = l.set b X ++ m := fun m X => List.set_append_left _ _ hbl
      have w2 : ∀ m X Y, (l.set b X ++ m).set b Y = l.set b Y ++ m := fun m X Y => by rw [List.set_append_left _ _ (by simpa using hbl), List.set_set]
      have w3 : ∀ m X, (l.set b X ++ m)[bt]? = some ⟨[.int .i64 most, .sl b 0 L.length g 7 false], 0, 0, false⟩ := fun m X => by rw [List.getElem?_append_left (by simpa using hbt), List.getElem?_set_ne hbb, hv]
      have w4 : ∀ m X, (l.set b X ++ m)[b]? = some X := fun m X => by rw [List.getElem?_append_left (by simpa using hbl), List.getElem?_set_self hbl]
      have hTn : ∀ y : En, Tab (l.set b ⟨(L.set n y).flatMap En.cells, g, g, false⟩) bt most (L.set n y) (some b) := fun y => ⟨hbb, g, g, Nat.le_refl g, by rw [List.getElem?_set_ne hbb, List.length_set]; exact hT1, List.getElem?_set_self hbl⟩
      have hKn : ∀ X, Kept l (l.set b X) bt (some b) (some b) := fun X => ⟨by simp, fun c hc hcb hcl => List.getElem?_set_ne (fun h => hcl (by rw [h])), .inl rfl⟩
      rw [ha]
      by_cases co : e.out = 0
      · simp (dsimp := false) [hg, hr, c0, do_makeFunc, hC]
        refine (W_anyF (F := []) (by kernel_rfl)).2 ?_
        simp (dsimp := false) [hg, hr, hb, hva, hnl, k0, cx]
        refine (W_anyF (F := []) (by kernel_rfl)).2 ?_
        have z2 : n * 7 + 6 + 1 ≤ L.length * 7 := by omega
        simp (dsimp := false) [hg, hr, hb, hnl, hLl, s1, w1, co, z2]
        exact ⟨_, [], some b, by simp, hTn _, hKn _, fun c hc => .inl (by simp at hc; subst hc; exact hbl)⟩
      · simp (dsimp := false) [hg, hr, c0, do_makeFunc, hC]
        refine (W_anyF (F := []) (by kernel_rfl)).2 ?_
        simp (dsimp := false) [hg, hr, hb, hva, hnl, k0, cx]
        refine (W_anyF (F := []) (by kernel_rfl)).2 ?_
        have z2 : n * 7 + 6 + 1 ≤ L.length * 7 := by omega
        have z3 : n * 7 + 5 + 1 ≤ L.length * 7 := by omega
        simp (dsimp := false) [hg, hr, hb, hnl, hLl, s1, w1, co, z2]
        refine (W_anyF (F := []) (by kernel_rfl)).2 ?_
        simp (dsimp := false) [hg, hnl, s2, w2, w3, w4, z1, z3]
        exact ⟨l.set b ⟨(L.set n { x with seen := e.seen, out := e.out }).flatMap En.cells, g, g, false⟩, [], some b, by simp, by simpa [co] using hTn { x with seen := e.seen, out := e.out }, hKn _, fun c hc => .inl (by simp at hc; subst hc; exact hbl)⟩
    · have ha : addN L most e = (110, L) := by
        unfold addN
        rw [if_neg c0]
        simp only [hn]
        rw [if_pos (by omega), hgD, if_pos cx]
      rw [ha]
      simp (dsimp := false) [hg, hr, c0, do_makeFunc, hC]
      refine (W_anyF (F := []) (by kernel_rfl)).2 ?_
      simp (dsimp := false) [hg, hr, hb, hva, hnl, k0, cx]
      exact ⟨l, [], some b, by simp, ⟨hbb, g, va, hva, hT1, hT2⟩, Kept.refl, fun c hc => .inl (hlb c hc)⟩
  · have hn := (idxN_neg _ _).1 (Int.not_le.1 ci)
    rw [hn] at hC
    by_cases cm : most ≤ (L.length : Int)
    · have ha : addN L most e = (6, L) := by
        unfold addN
        rw [if_neg c0]
        simp only [hn]
        rw [if_neg (by decide), if_pos cm]
      rw [ha]
      simp (dsimp := false) [hg, hr, c0, do_makeFunc, hC]
      refine (W_anyF (F := []) (by kernel_rfl)).2 ?_
      simp (dsimp := false)
      refine (W_anyF (F := []) (by kernel_rfl)).2 ?_
      simp (dsimp := false) [hg, hr, hlen, cm]
      exact ⟨l, [], lb, by simp, hT, Kept.refl, fun b hb => .inl (hlb b hb)⟩
    · have ha : addN L most e = (0, L ++ [e]) := by
        unfold addN
        rw [if_neg c0]
        simp only [hn]
        rw [if_neg (by decide), if_neg cm]
      rw [ha]
      cases lb with
      | none =>
        obtain ⟨h1, rfl⟩ := hT
        obtain rfl : v = .nils := by
          rw [hv] at h1
          simpa using h1
        simp (dsimp := false) [hg, hr, c0, do_makeFunc, hC]
        refine (W_anyF (F := []) (by kernel_rfl)).2 ?_
        simp (dsimp := false)
        refine (W_anyF (F := []) (by kernel_rfl)).2 ?_
        have cm' := eq_false (show ¬ most ≤ 0 by simpa using cm)
        have hap := append_nils (l := l ++ [⟨e.cells, 0, 0, false⟩, ⟨e.cells, 0, 0, false⟩]) (es := []) (ys := e.cells) (esz := 7) (eb := 48) (j := l.length + 1) (by simp) rfl (by decide) rfl (by decide)
        simp (dsimp := false) [En.cells, H.new] at hap
        have w1 : ∀ m X, (l ++ m).set bt X = l.set bt X ++ m := fun m X => List.set_append_left _ _ hbt
        simp (dsimp := false) [hg, hr, cm']
        refine (W_anyF (F := [(4, 6)]) (by kernel_rfl)).2 ?_
        have d1 := eq_false (show ¬ l.length + 2 < bt by omega)
        simp (dsimp := false) [hg, hr, splice, hap, w1, d1]
        rw [leave_out (h := ⟨l, es⟩) (e := (bt, l.length + 2)) (by simp) hbt (show l.length ≤ l.length + 2 by omega)]
        refine ⟨_, _, some (l.length + 2), rfl, ⟨by omega, 0, 0, Nat.le_refl 0, ?_, ?_⟩, ⟨by simp, fun c hc hcb _ => ?_, .inr ⟨_, rfl, by omega⟩⟩, fun c hc => .inr (by simp at hc; subst hc; simp)⟩
        · rw [List.getElem?_append_left (by simpa using hbt), List.getElem?_set_self hbt]
          rfl
        · rw [List.getElem?_append_right (by simp)]
          simp (dsimp := false) [En.cells]
        · rw [List.getElem?_append_left (by simpa using hc), List.getElem?_set_ne (fun h => hcb h.symm)]
      | some b =>
        obtain ⟨hbb, g, va, hva, hT1, hT2⟩ := hT
        have hbl := lt_of_some hT2
        obtain rfl : v = .sl b 0 L.length g 7 false := by
          rw [hv] at hT1
          simpa using hT1
        have hLl : (L.flatMap En.cells).length = L.length * 7 := flat_len En.cells_len L
        have hap := append_atV (l := l ++ [⟨e.cells, 0, 0, false⟩, ⟨e.cells, 0, 0, false⟩]) (es := []) (cs := L.flatMap En.cells) (ys := e.cells) (k := L.length) (g := g) (va := va) (esz := 7) (eb := 48) (b := b) (j := l.length + 1) (at_old hT2) (by simp) hLl rfl (by decide) rfl (by omega) (by omega)
        rw [List.set_append_left _ _ hbl] at hap
        simp (dsimp := false) [En.cells] at hap
        have w1 : ∀ X m Y, (l.set b X ++ m).set bt Y = (l.set b X).set bt Y ++ m := fun X m Y => List.set_append_left _ _ (by simpa using hbt)
        have w3 : ∀ m X, (l.set b X ++ m)[bt]? = some ⟨[.int .i64 most, .sl b 0 L.length g 7 false], 0, 0, false⟩ := fun m X => by rw [List.getElem?_append_left (by simpa using hbt), List.getElem?_set_ne hbb, hv]
        have cm' := eq_false cm
        simp (dsimp := false) [hg, hr, c0, do_makeFunc, hC]
        refine (W_anyF (F := []) (by kernel_rfl)).2 ?_
        simp (dsimp := false)
        refine (W_anyF (F := []) (by kernel_rfl)).2 ?_
        simp (dsimp := false) [hg, hr, hlen, cm']
        refine (W_anyF (F := [(4, 6)]) (by kernel_rfl)).2 ?_
        simp (dsimp := false) [hg, hr, splice, hap, w1, w3]
        rw [leave_in (by simp) rfl (fun x hx => by
          obtain ⟨r, hr, rfl⟩ := List.mem_map.1 hx
          split at hr
          · cases hr
          · rw [List.mem_singleton.1 hr]
            exact hbl)]
        refine ⟨_, _, some b, rfl, ⟨hbb, g + 1, va, by omega, ?_, ?_⟩, ⟨by simp, fun c hc hcb hcl => ?_, .inl rfl⟩, fun c hc => .inl (hlb c hc)⟩
        · rw [List.getElem?_set_self (by simpa using hbt)]
          simp
        · rw [List.getElem?_set_ne (fun h => hbb h.symm), List.getElem?_set_self hbl]
          simp (dsimp := false) [En.cells]
        · rw [List.getElem?_set_ne (fun h => hcb h.symm), List.getElem?_set_ne (fun h => hcl (by rw [h]))]
end Go.Proofs.YtklbbjfbcibghaaGreat
end
section
namespace Go.Proofs.YtklbbjfbcibghaaGreat
open Go.Hl
set_option maxHeartbeats 1000000
variable {C : CallT}
theorem octet_U8 (x : Int) (h : H) : Does Tryz.prog C 132 [.int .i64 x] h = some (.str [b8 x], h) := by
  refine Does_eq (n := 7) (rs := [.tmp 2]) Tryz.func132 (by kernel_rfl) rfl rfl rfl (by simp) fun σ hg => ?_
  simp (dsimp := false) [-List.all_eq_true, splice, hg, b8_wrap]
theorem octet_U16 (x : Int) (h : H) : Does Tryz.prog C 109 [.int .i64 x] h = some (.str (be2 x), h) := by
  refine Does_eq (n := 10) (rs := [.tmp 2]) Tryz.func109 (by kernel_rfl) rfl rfl rfl (by simp) fun σ hg => ?_
  simp (dsimp := false) [-List.all_eq_true, splice, hg, b8_wrap, fdiv_pos]
  rfl
theorem octet_U32 (x : Int) (h : H) : Does Tryz.prog C 110 [.int .u32 x] h = some (.str (be4 x), h) := by
  refine Does_eq (n := 16) (rs := [.tmp 2]) Tryz.func110 (by kernel_rfl) rfl rfl rfl (by simp) fun σ hg => ?_
  simp (dsimp := false) [-List.all_eq_true, splice, hg, b8_wrap, fdiv_pos]
  rfl
end Go.Proofs.YtklbbjfbcibghaaGreat
end
section
/-! The document's reader of bytes, beside the program's. -/
namespace Go.Hl
def qFail (x : Int) (r : RS) : RS := if r.e = 0 then ⟨[], x⟩ else r
def qBad (n : Int) (r : RS) : Bool := decide (n < 0) || decide ((r.s.length : Int) < n)
def qTk (n : Int) (r : RS) : RS := if r.e ≠ 0 then r else if qBad n r then qFail 2 r else ⟨r.s.drop n.toNat, 0⟩
def qGot (n : Int) (r : RS) : Bs := if r.e ≠ 0 then [] else if qBad n r then [] else r.s.take n.toNat
def qNum (n : Int) (r : RS) : Nat := numB (qGot n r)
def qPad (n : Int) : Int := (4 - n.tmod 4).tmod 4
def qFillN (n : Int) (r : RS) : Int := if (r.s.length : Int) < qPad n then r.s.length else qPad n
def qFill (n : Int) (r : RS) : RS := if (qGot (qFillN n r) r).all (fun b => b == 0) then qTk (qFillN n r) r else qFail 4 (qTk (qFillN n r) r)
def qWhole (n : Int) (r : RS) : RS := if r.e = 0 ∧ (r.s.length : Int) < qPad n then qFail 2 r else qFill n r
def qEnd (r : RS) : Int := if r.e = 0 ∧ r.s ≠ [] then 3 else r.e
def qParam (r : RS) : RS × Pm :=
  let r2 := qTk 2 (qTk 2 r)
  let n : Int := (qNum 2 (qTk 2 r) : Nat)
  let r3 := if r2.e = 0 ∧ (n < 4 ∨ 1004 < n) then qFail 3 r2 else r2
  let r4 := qTk (n - 4) r3
  if r4.e ≠ 0 then (r4, ⟨0, []⟩) else
  let r5 := qWhole n r4
  if r5.e ≠ 0 then (r5, ⟨0, []⟩) else (r5, ⟨(qNum 2 r : Nat), qGot (n - 4) r3⟩)
/-- Some parameters, one behind the other: none, where there is an error. -/
def qLoop : Nat → RS → List Pm → List Pm × Int
  | 0, r, out => (out, r.e)
  | k + 1, r, out =>
    if r.e = 0 ∧ r.s ≠ [] then if out.length = 16 then ([], 5) else qLoop k (qParam r).1 (out ++ [(qParam r).2])
    else if r.e ≠ 0 then ([], r.e) else (out, 0)
def qAll (s : Bs) : List Pm × Int := qLoop 17 ⟨s, 0⟩ []

/-- The same reader, as far as it matters. -/
def Sim (p q : RS) : Prop := p.e = q.e ∧ (p.e = 0 → p.s = q.s)
theorem Sim.refl (p : RS) : Sim p p := ⟨rfl, fun _ => rfl⟩
theorem Sim.cases {p q : RS} (h : Sim p q) : p = q ∨ (p.e ≠ 0 ∧ q.e = p.e) := by
  by_cases c : p.e = 0
  · left
    obtain ⟨s, e⟩ := p
    obtain ⟨s', e'⟩ := q
    have h1 := h.1
    have h2 := h.2 c
    simp only at h1 h2
    rw [h1, h2]
  · exact .inr ⟨c, h.1.symm⟩
theorem Sim.bad {p q : RS} (c : p.e ≠ 0) (h : q.e = p.e) : Sim p q := ⟨h.symm, fun x => absurd x c⟩
theorem got_bad {n : Int} {p : RS} (c : p.e ≠ 0) : p.got n = [] := by simp [RS.got, tkS, noTake, c]
theorem tk_bad {n : Int} {p : RS} (c : p.e ≠ 0) : p.tk n = p := by
  unfold RS.tk tkR tkE
  simp [noTake, c, failE]
theorem qGot_bad {n : Int} {p : RS} (c : p.e ≠ 0) : qGot n p = [] := by simp [qGot, c]
theorem qTk_bad {n : Int} {p : RS} (c : p.e ≠ 0) : qTk n p = p := by simp [qTk, c]
theorem Sim.got {p q : RS} (h : Sim p q) (n : Int) : p.got n = qGot n q := by
  rcases h.cases with rfl | ⟨c, h⟩
  · by_cases c : p.e = 0
    · simp only [RS.got, tkS, noTake, qGot, qBad, c]
      simp
    · rw [got_bad c, qGot_bad c]
  · rw [got_bad c, qGot_bad (by rw [h]; exact c)]
theorem Sim.num {p q : RS} (h : Sim p q) (n : Int) : p.num n = qNum n q := by rw [RS.num, qNum, h.got]
theorem Sim.tk {p q : RS} (h : Sim p q) (n : Int) : Sim (p.tk n) (qTk n q) := by
  rcases h.cases with rfl | ⟨c, h⟩
  · by_cases c : p.e = 0
    · unfold RS.tk tkR tkE qTk qFail
      simp only [noTake, qBad, c]
      by_cases hb : (decide (n < 0) || decide ((p.s.length : Int) < n)) = true
      · simp [hb, failE, Sim]
      · simp only [Bool.not_eq_true] at hb
        simp [hb, Sim]
    · rw [tk_bad c, qTk_bad c]
      exact Sim.refl p
  · rw [tk_bad c, qTk_bad (by rw [h]; exact c)]
    exact Sim.bad c h
theorem Sim.fail {p q : RS} (h : Sim p q) {x : Int} (hx : x ≠ 0) : Sim (p.fail x) (qFail x q) := by
  rcases h.cases with rfl | ⟨c, h⟩
  · by_cases c : p.e = 0
    · simp [RS.fail, qFail, failE, c, Sim, hx]
    · simp [RS.fail, qFail, failE, c, Sim]
  · have : q.e ≠ 0 := by rw [h]; exact c
    simp [RS.fail, qFail, failE, c, Sim, h]
theorem tk_all {p : RS} (c : p.e = 0) {n : Int} (h0 : 0 ≤ n) (h1 : n ≤ p.s.length) : p.tk n = ⟨p.s.drop n.toNat, 0⟩ ∧ p.got n = p.s.take n.toNat := by
  have hb : noTake n p.s p.e = false := by
    unfold noTake
    rw [c]
    simp
    omega
  refine ⟨?_, ?_⟩
  · unfold RS.tk tkR tkE
    rw [hb]
    simp [c]
  · unfold RS.got tkS
    rw [hb]
    simp
theorem all_noughts (s : Bs) : s.all (fun b => b == 0) = decide (s = noughts s.length) := by
  induction s with
  | nil => rfl
  | cons b s ih =>
    rw [List.all_cons, ih]
    by_cases hb : b = 0
    · subst hb
      simp only [noughts, List.replicate_succ, List.length_cons, beq_self_eq_true, Bool.true_and, List.cons.injEq, true_and]
      exact decide_eq_decide.2 Iff.rfl
    · simp [noughts, List.replicate_succ, hb]
theorem qPad_eq {n : Int} (h : 0 ≤ n) : qPad n = (-n) % 4 := by
  unfold qPad
  rw [Int.tmod_eq_emod_of_nonneg h, Int.tmod_eq_emod_of_nonneg (by omega)]
  omega
/-- What fills up, all of it asked for. -/
theorem Sim.whole {p q : RS} (h : Sim p q) {n : Int} (hn : 0 ≤ n) : Sim ((if p.left < (-n) % 4 then p.fail 2 else p).fill n) (qWhole n q) := by
  have h4 : 0 ≤ (-n) % 4 := by omega
  rcases h.cases with rfl | ⟨c, h⟩
  · by_cases c : p.e = 0
    · have hl : p.left = p.s.length := by simp [RS.left, leftN, c]
      rw [hl, qWhole]
      by_cases hb : (p.s.length : Int) < (-n) % 4
      · rw [if_pos hb, if_pos ⟨c, by rw [qPad_eq hn]; exact hb⟩]
        have e1 : (p.fail 2).e = 2 := by simp [RS.fail, failE, c]
        have hf : ((p.fail 2).fill n).e = 2 := by
          have e2 : tkS (flN n p.s 2) p.s 2 = [] := by simp [tkS, noTake]
          simp [RS.fill, RS.fail, failE, c, flE, e2, noughts, tkE, noTake]
        exact ⟨by rw [hf]; simp [qFail, c], fun x => by rw [hf] at x; cases x⟩
      · rw [if_neg hb, if_neg (by rw [qPad_eq hn]; exact fun x => hb x.2)]
        have hN : flN n p.s p.e = (-n) % 4 := by
          unfold flN leftN
          rw [if_pos c]
          rw [if_neg hb]
        have hq : qFillN n p = (-n) % 4 := by
          unfold qFillN
          rw [qPad_eq hn, if_neg hb]
        have hk := tk_all c h4 (by omega)
        have hg := (Sim.refl p).got ((-n) % 4)
        have ht := (Sim.refl p).tk ((-n) % 4)
        unfold qFill
        rw [hq, ← hg, all_noughts]
        have hf : p.fill n = if p.got ((-n) % 4) = noughts (p.got ((-n) % 4)).length then p.tk ((-n) % 4) else (p.tk ((-n) % 4)).fail 4 := by
          unfold RS.fill flE flR
          rw [hN]
          unfold RS.got RS.tk RS.fail
          simp only
          split <;> rfl
        rw [hf]
        by_cases hz : p.got ((-n) % 4) = noughts (p.got ((-n) % 4)).length
        · rw [if_pos hz, if_pos (by simpa using hz)]
          exact ht
        · rw [if_neg hz, if_neg (by simpa using hz)]
          exact ht.fail (by decide)
    · have hq : qWhole n p = p := by
        unfold qWhole qFill
        rw [if_neg (fun x => c x.1), qGot_bad c, qTk_bad c]
        rfl
      have hf : ∀ q : RS, q.e ≠ 0 → q.fill n = q := by
        intro q hq
        have e2 : tkS (flN n q.s q.e) q.s q.e = [] := by simp [tkS, noTake, hq]
        simp [RS.fill, flE, flR, e2, noughts, tkE, tkR, noTake, hq, failE]
      have hff : p.fail 2 = p := by simp [RS.fail, failE, c]
      rw [hq, hff, ite_self, hf p c]
      exact Sim.refl p
  · have hc : q.e ≠ 0 := by rw [h]; exact c
    have hq : qWhole n q = q := by
      unfold qWhole qFill
      rw [if_neg (fun x => hc x.1), qGot_bad hc, qTk_bad hc]
      rfl
    have hf : p.fill n = p := by
      have e2 : tkS (flN n p.s p.e) p.s p.e = [] := by simp [tkS, noTake, c]
      simp [RS.fill, flE, flR, e2, noughts, tkE, tkR, noTake, c, failE]
    have hff : p.fail 2 = p := by simp [RS.fail, failE, c]
    rw [hq, hff, ite_self, hf]
    exact Sim.bad c h
end Go.Hl
end
section
namespace Go.Proofs.YtklbbjfbcibghaaGreat
open Go.Hl
set_option maxHeartbeats 1000000
variable {C : CallT}
def rc (r : RS) : List V := [.str r.s, .int .i64 r.e]
section
variable {h : H} {r : RS}
theorem rdoc_Fail (x : Int) : Does Tryz.prog C 79 [.agg (rc r), .int .i64 x] h = some (.agg (rc (qFail x r)), h) := by
  unfold rc
  refine Does_eq (n := 11) (rs := [.cell 4 100]) Tryz.func79 (by kernel_rfl) rfl rfl rfl (by simp) fun σ hg => ?_
  by_cases c : r.e = 0
  · simp (dsimp := false) [hg, splice, c, qFail]
  · simp (dsimp := false) [hg, splice, c, qFail]
theorem rdoc_Take (n : Int) : Does Tryz.prog C 78 [.agg (rc r), .int .i64 n] h = some (.tup [.agg (rc (qTk n r)), .str (qGot n r)], h) := by
  have hF : ∀ e h, Does Tryz.prog C 79 [.agg [.str r.s, .int .i64 e], .int .i64 2] h = some (.agg (rc (qFail 2 ⟨r.s, e⟩)), h) := fun e h => rdoc_Fail (C := C) (h := h) (r := ⟨r.s, e⟩) 2
  unfold rc at *
  refine Does_eq (n := 30) (rs := [.cell 4 100, .tmp 5]) Tryz.func78 (by kernel_rfl) rfl rfl rfl (by simp) fun σ hg => ?_
  by_cases c : r.e = 0
  · by_cases c1 : qBad n r = true
    · have c2 : n < 0 ∨ (r.s.length : Int) < n := by simpa [qBad] using c1
      simp (dsimp := false) [-run_groupK, run_join, hg, splice, c, c2, hF]
      rw [show qTk n r = qFail 2 r by simp (dsimp := false) [qTk, c, c1], show qGot n r = [] by simp (dsimp := false) [qGot, c, c1], show (⟨r.s, 0⟩ : RS) = r by rw [← c]]
      simp
    · have c2 : ¬ (n < 0 ∨ (r.s.length : Int) < n) := by simpa [qBad] using c1
      have b1 : 0 ≤ n := by omega
      have b2 : n ≤ r.s.length := by omega
      simp (dsimp := false) [-run_groupK, run_join, hg, c, c2]
      refine (W_anyF (F := [(6, 9)]) (by kernel_rfl)).2 ?_
      simp (dsimp := false) [hg, splice, c, b1, b2]
      rw [show qTk n r = ⟨r.s.drop n.toNat, 0⟩ by simp (dsimp := false) [qTk, c, c1], show qGot n r = r.s.take n.toNat by simp (dsimp := false) [qGot, c, c1]]
      simp
  · simp (dsimp := false) [hg, splice, c, qTk, qGot]
theorem rdoc_End : Does Tryz.prog C 84 [.agg (rc r)] h = some (.int .i64 (qEnd r), h) := by
  unfold rc
  refine Does_eq (n := 14) (rs := [.tmp 2]) Tryz.func84 (by kernel_rfl) rfl rfl rfl (by simp) fun σ hg => ?_
  by_cases c : r.e = 0
  · by_cases c1 : r.s = []
    · simp (dsimp := false) [-run_groupK, run_join, hg, c, c1, qEnd]
    · have c2 : 0 < r.s.length := List.length_pos_iff.2 c1
      have c3 : (0 : Int) < r.s.length := by omega
      simp (dsimp := false) [-run_groupK, run_join, hg, c, c1, c2, qEnd]
  · simp (dsimp := false) [-run_groupK, run_join, hg, c, qEnd]
end
end Go.Proofs.YtklbbjfbcibghaaGreat
end
section
namespace Go.Proofs.YtklbbjfbcibghaaGreat
open Go.Hl
set_option maxHeartbeats 1000000
variable {C : CallT}
theorem qGot_len (n : Int) (r : RS) : (qGot n r).length ≤ n.toNat := by
  unfold qGot
  split
  · simp
  · split
    · simp
    · simp
      omega
theorem qGot_le (n : Int) (r : RS) : (qGot n r).length ≤ r.s.length := by
  unfold qGot
  split
  · simp
  · split
    · simp
    · simp
      omega
section
variable {h : H} {r : RS}
theorem rdoc_Num {n : Int} (h8 : n ≤ 8) : Does Tryz.prog C 46 [.agg (rc r), .int .i64 n] h = some (.tup [.agg (rc (qTk n r)), .int .u64 (qNum n r : Nat)], h) := by
  have hT : ∀ h, Does Tryz.prog C 78 [.agg (rc r), .int .i64 n] h = some (.tup [.agg (rc (qTk n r)), .str (qGot n r)], h) := fun h => rdoc_Take (C := C) n
  unfold qNum
  have hl := qGot_len n r
  generalize qGot n r = s at *
  generalize qTk n r = q at *
  unfold rc at *
  refine Does_eq (n := 31) (rs := [.cell 4 100, .tmp 5]) Tryz.func46 (by kernel_rfl) rfl rfl rfl (by simp) fun σ hg => ?_
  simp (dsimp := false) [hg, splice, hT]
  refine W_loopM (fun k σ h' => ∃ i : Nat, k = s.length - i ∧ i ≤ s.length ∧ h' = ⟨h.blks ++ [⟨[.str r.s, .int .i64 r.e], 0, 0, false⟩, ⟨[.str [], .int .i64 0], 0, 0, false⟩, ⟨[.str q.s, .int .i64 q.e], 0, 0, false⟩], []⟩ ∧ σ 4 = .ptr (h.blks.length + 1) 0 0 2 ∧ σ 6 = .ptr (h.blks.length + 2) 0 0 2 ∧ σ 7 = .str s ∧ σ 9 = .int .i64 i ∧ σ 8 = .int .u64 (numB (s.take i) : Nat)) ?_ s.length _ _ ?_
  · rintro _ σ _ ⟨i, rfl, hi, rfl, h4, h6, h7, h9, h8'⟩
    simp (dsimp := false) [h4, h6, h7, h9, h8']
    split
    · rename_i hlt
      have hn := numB_take hlt
      have hb := numB_256 (l := s.take (i + 1)) (by simp; omega)
      rw [hn] at hb
      have hb1 : numB (s.take i) * 256 < 18446744073709551616 := Nat.lt_of_le_of_lt (Nat.le_add_right _ _) hb
      have hw : IntKind.u64.wrap ((numB (s.take i) : Nat) * 256) = (numB (s.take i) : Nat) * 256 := by
        have := wrap_u64' hb1
        rwa [Int.natCast_mul] at this
      have hw2 : IntKind.u64.wrap ((numB (s.take i) : Nat) * 256 + (s[i].toNat : Nat)) = (numB (s.take i) : Nat) * 256 + (s[i].toNat : Nat) := by
        have := wrap_u64' hb
        rwa [Int.natCast_add, Int.natCast_mul] at this
      have hx : s[i].toNat < 256 := s[i].toNat_lt
      have hw3 := wrap_u64' (n := s[i].toNat) (Nat.lt_of_le_of_lt (Nat.le_add_left _ _) hb)
      clear hb hb1
      simp (dsimp := false) [hlt, hw, hw2, hw3, wrap_succ hlt (by omega)]
      exact ⟨_, by omega, i + 1, rfl, by omega, by simp, by rw [hn]; simp⟩
    · obtain rfl : i = s.length := by omega
      simp (dsimp := false) [splice]
  · exact ⟨0, by simp (dsimp := false) [numB]⟩
theorem qPad_lt (n : Int) : 0 ≤ qPad n ∧ qPad n < 4 := by
  unfold qPad
  have h1 := Int.tmod_lt_of_pos n (b := 4) (by decide)
  have h2 : 0 ≤ 4 - n.tmod 4 := by omega
  exact ⟨Int.tmod_nonneg 4 h2, Int.tmod_lt_of_pos _ (by decide)⟩
theorem pad_wraps (n : Int) : IntKind.i64.wrap (4 - n.tmod 4) = 4 - n.tmod 4 := by
  have h1 := Int.tmod_lt_of_pos n (b := 4) (by decide)
  have h2 := Int.lt_tmod_of_pos n (b := 4) (by decide)
  exact wrap_i64 (by omega) (by omega)
theorem rdoc_Fill {n : Int} (hr : r.s.length ≤ 4000000000000000000) : Does Tryz.prog C 112 [.agg (rc r), .int .i64 n] h = some (.agg (rc (qFill n r)), h) := by
  have hT : ∀ h, Does Tryz.prog C 78 [.agg (rc r), .int .i64 (qFillN n r)] h = some (.tup [.agg (rc (qTk (qFillN n r) r)), .str (qGot (qFillN n r) r)], h) := fun h => rdoc_Take (C := C) _
  have hF : ∀ q h, Does Tryz.prog C 79 [.agg (rc q), .int .i64 4] h = some (.agg (rc (qFail 4 q)), h) := fun q h => rdoc_Fail (C := C) (h := h) (r := q) 4
  have hl := qGot_le (qFillN n r) r
  have hQ : qFill n r = qFill n r := rfl
  conv at hQ => rhs; unfold qFill
  have hN : qFillN n r = qFillN n r := rfl
  conv at hN => rhs; unfold qFillN
  generalize qGot (qFillN n r) r = s at *
  generalize qTk (qFillN n r) r = q at *
  have hp : (IntKind.i64.wrap (4 - n.tmod 4)).tmod 4 = qPad n := by rw [pad_wraps]; rfl
  unfold rc at *
  refine Does_eq (n := 40) (rs := [.cell 4 100]) Tryz.func112 (by kernel_rfl) rfl rfl rfl (by simp) fun σ hg => ?_
  by_cases c1 : (r.s.length : Int) < qPad n
  all_goals
    first | rw [if_pos c1] at hN | rw [if_neg c1] at hN
    rw [hN] at hT
    simp (dsimp := false) [hg, splice, hp, c1, hT]
    refine W_loopM (fun k σ h' => ∃ i : Nat, k = s.length - i ∧ i ≤ s.length ∧ h' = ⟨h.blks ++ [⟨[.str r.s, .int .i64 r.e], 0, 0, false⟩, ⟨[.str [], .int .i64 0], 0, 0, false⟩, ⟨[.str q.s, .int .i64 q.e], 0, 0, false⟩], []⟩ ∧ σ 4 = .ptr (h.blks.length + 1) 0 0 2 ∧ σ 6 = .ptr (h.blks.length + 2) 0 0 2 ∧ σ 7 = .str s ∧ σ 8 = .int .i64 i ∧ (s.all fun b => b == 0) = ((s.drop i).all fun b => b == 0)) ?_ s.length _ _ ?_
    · rintro _ σ _ ⟨i, rfl, hi, rfl, h4, h6, h7, h8, hz⟩
      simp (dsimp := false) [h4, h6, h7, h8]
      split
      · rename_i hlt
        rw [List.drop_eq_getElem_cons hlt, List.all_cons] at hz
        by_cases b : s[i] = 0
        · have hz2 : (s.all fun b => b == 0) = ((s.drop (i + 1)).all fun b => b == 0) := by rw [hz, b]; rfl
          have hb : s[i].toNat = 0 := by rw [b]; rfl
          simp (dsimp := false) [hlt, hb, wrap_succ hlt (by omega)]
          exact ⟨_, by omega, i + 1, rfl, by omega, by simp, hz2⟩
        · have hz2 : (s.all fun b => b == 0) = false := by
            rw [hz]
            have : (s[i] == 0) = false := by simpa using b
            rw [this, Bool.false_and]
          have hb : ¬ s[i].toNat = 0 := by
            intro h
            apply b
            apply UInt8.toNat_inj.1
            rw [h]
            rfl
          rw [hQ, hz2]
          have hF' : ∀ h, Does Tryz.prog C 79 [.agg [.str q.s, .int .i64 q.e], .int .i64 4] h = some (.agg [.str (qFail 4 q).s, .int .i64 (qFail 4 q).e], h) := fun h => hF q h
          simp (dsimp := false) [h4, hlt, hb, hF', splice]
      · obtain rfl : i = s.length := by omega
        have hz2 : (s.all fun b => b == 0) = true := by rw [hz, List.drop_length]; rfl
        rw [hQ, hz2]
        simp (dsimp := false) [splice]
    · exact ⟨0, by simp⟩
theorem rdoc_Whole {n : Int} (hr : r.s.length ≤ 4000000000000000000) : Does Tryz.prog C 80 [.agg (rc r), .int .i64 n] h = some (.agg (rc (qWhole n r)), h) := by
  have hFi : ∀ h, Does Tryz.prog C 112 [.agg (rc r), .int .i64 n] h = some (.agg (rc (qFill n r)), h) := fun h => rdoc_Fill hr
  have hF : ∀ e h, Does Tryz.prog C 79 [.agg [.str r.s, .int .i64 e], .int .i64 2] h = some (.agg (rc (qFail 2 ⟨r.s, e⟩)), h) := fun e h => rdoc_Fail (C := C) (h := h) (r := ⟨r.s, e⟩) 2
  have hp : (IntKind.i64.wrap (4 - n.tmod 4)).tmod 4 = qPad n := by rw [pad_wraps]; rfl
  have hQ : qWhole n r = qWhole n r := rfl
  conv at hQ => rhs; unfold qWhole
  unfold rc at *
  refine Does_eq (n := 23) (rs := [.cell 4 100]) Tryz.func80 (by kernel_rfl) rfl rfl rfl (by simp) fun σ hg => ?_
  by_cases c : r.e = 0 ∧ (r.s.length : Int) < qPad n
  · rw [if_pos c] at hQ
    rw [hQ]
    simp (dsimp := false) [-run_groupK, run_join, hg, splice, hp, c, hF]
    rw [show (⟨r.s, 0⟩ : RS) = r by rw [← c.1]]
    simp
  · rw [if_neg c] at hQ
    rw [hQ]
    simp (dsimp := false) [-run_groupK, run_join, hg, splice, hp, c, hFi]
theorem rdoc_Filled (s : Bs) (hs : s.length ≤ 4000000000000000000) : Does Tryz.prog C 64 [.str s] h = some (.str (filled s), h) := by
  refine Does_eq (n := 12) (rs := [.tmp 2]) Tryz.func64 (by kernel_rfl) rfl rfl rfl (by simp) fun σ hg => ?_
  simp (dsimp := false) [hg]
  refine W_loopM (fun k σ h' => ∃ i : Nat, k = 4 - i ∧ i ≤ padN s.length ∧ h' = ⟨h.blks, []⟩ ∧ σ 3 = .str (s ++ noughts i)) ?_ 4 _ _ ?_
  · rintro _ σ _ ⟨i, rfl, hi, rfl, h3⟩
    have hl : (s ++ noughts i).length = s.length + i := by simp
    have hp : padN s.length < 4 := by unfold padN; omega
    by_cases c : i = padN s.length
    · have e : ((s.length : Int) + padN s.length).tmod 4 = 0 := by
        rw [Int.tmod_eq_emod_of_nonneg (by omega)]
        unfold padN
        omega
      subst c
      simp (dsimp := false) [h3, e]
      rfl
    · have e : ¬ ((s.length : Int) + i).tmod 4 = 0 := by
        rw [Int.tmod_eq_emod_of_nonneg (by omega)]
        unfold padN at *
        omega
      simp (dsimp := false) [h3, e]
      exact ⟨by omega, _, by omega, i + 1, rfl, by omega, by rw [noughts, noughts, List.replicate_succ']⟩
  · exact ⟨0, by simp (dsimp := false) [noughts]⟩
end
end Go.Proofs.YtklbbjfbcibghaaGreat
end
section
namespace Go.Proofs.YtklbbjfbcibghaaGreat
open Go.Hl
set_option maxHeartbeats 1000000
variable {C : CallT}
section
variable {l : List Blk} {es : List (Nat × Nat)} {b : Nat}
theorem rd_Err (hr : isRdr l[b]? = true) : Does Tryz.prog C 60 [.ptr b 0 0 2] ⟨l, es⟩ = some (.int .i64 (rdE l[b]?), ⟨l, es⟩) := by
  obtain ⟨s, e, hr⟩ := isRdr_get hr
  refine Does_eq (n := 9) (rs := [.tmp 2]) Tryz.func60 (by kernel_rfl) rfl rfl rfl (by simp) fun σ hg => ?_
  simp (dsimp := false) [hg, hr]
theorem rd_Left (hr : isRdr l[b]? = true) : Does Tryz.prog C 68 [.ptr b 0 0 2] ⟨l, es⟩ = some (.int .i64 (leftN (rdS l[b]?) (rdE l[b]?)), ⟨l, es⟩) := by
  have h0 := rd_Err (C := C) (es := []) hr
  obtain ⟨s, e, hr⟩ := isRdr_get hr
  refine Does_eq (n := 11) (rs := [.tmp 2]) Tryz.func68 (by kernel_rfl) rfl rfl rfl (by simp) fun σ hg => ?_
  simp (dsimp := false) [hg, hr, leftN, h0]
  by_cases he : e = 0 <;> simp (dsimp := false) [he]
theorem rd_Fail {x : Int} (hr : isRdr l[b]? = true) : Does Tryz.prog C 69 [.ptr b 0 0 2, .int .i64 x] ⟨l, es⟩ = some (.tup [], ⟨l.set b (rdr (rdS l[b]?) (failE (rdE l[b]?) x)), es⟩) := by
  obtain ⟨s, e, hr⟩ := isRdr_get hr
  refine Does_eq (n := 17) (rs := []) Tryz.func69 (by kernel_rfl) rfl rfl rfl (by simp) fun σ hg => ?_
  simp (dsimp := false) [hg, hr, failE, splice]
  split <;> simp_all [set_self]
theorem rd_Take {n : Int} (hr : isRdr l[b]? = true) : Does Tryz.prog C 99 [.ptr b 0 0 2, .int .i64 n] ⟨l, es⟩ = some (.str (tkS n (rdS l[b]?) (rdE l[b]?)), ⟨l.set b (rdr (tkR n (rdS l[b]?) (rdE l[b]?)) (tkE n (rdS l[b]?) (rdE l[b]?))), es⟩) := by
  have h1 := fun es => rd_Err (C := C) (es := es) hr
  have h2 := fun es => rd_Fail (C := C) (x := 2) (es := es) hr
  obtain ⟨s, e, hr⟩ := isRdr_get hr
  have hlt := lt_of_some hr
  refine Does_eq (n := 40) (rs := [.tmp 4]) Tryz.func99 (by kernel_rfl) rfl rfl rfl (by simp) fun σ hg => ?_
  simp (dsimp := false) [hg, hr, h1, h2]
  by_cases he : e = 0
  · by_cases hn : n < 0
    · simp (dsimp := false) [he, hn, tkS, tkR, tkE, noTake, failE]
      intro a
      omega
    · by_cases hl : (s.length : Int) < n
      · simp (dsimp := false) [he, hn, hl, tkS, tkR, tkE, noTake, failE]
      · simp (dsimp := false) [he, hn, hl, tkS, tkR, tkE, noTake, failE]
        have h3 : 0 ≤ n := by omega
        have h4 : n ≤ s.length := by omega
        simp (dsimp := false) [h3, h4, splice]
  · simp (dsimp := false) [he, tkS, tkR, tkE, noTake, failE]
theorem rd_number {n : Int} (hr : isRdr l[b]? = true) (h8 : n ≤ 8) : Does Tryz.prog C 88 [.ptr b 0 0 2, .int .i64 n] ⟨l, es⟩ = some (.int .u64 (numB (tkS n (rdS l[b]?) (rdE l[b]?)) : Nat), ⟨l.set b (rdr (tkR n (rdS l[b]?) (rdE l[b]?)) (tkE n (rdS l[b]?) (rdE l[b]?))), es⟩) := by
  have h1 := fun es => rd_Take (C := C) (n := n) (es := es) hr
  have hl := tkS_len n (rdS l[b]?) (rdE l[b]?)
  generalize tkS n (rdS l[b]?) (rdE l[b]?) = s at *
  have hlen : (l.set b (rdr (tkR n (rdS l[b]?) (rdE l[b]?)) (tkE n (rdS l[b]?) (rdE l[b]?)))).length = l.length := by simp
  generalize l.set b (rdr (tkR n (rdS l[b]?) (rdE l[b]?)) (tkE n (rdS l[b]?) (rdE l[b]?))) = l' at *
  refine Does_eq (n := 25) (rs := [.tmp 4]) Tryz.func88 (by kernel_rfl) rfl rfl rfl (by simp) fun σ hg => ?_
  simp (dsimp := false) [hg, h1]
  refine W_loopM (fun k σ h' => ∃ i : Nat, k = s.length - i ∧ i ≤ s.length ∧ h' = ⟨l', []⟩ ∧ σ 6 = .str s ∧ σ 12 = .int .i64 s.length ∧ σ 13 = .int .i64 i ∧ σ 5 = .int .u64 (numB (s.take i) : Nat)) ?_ s.length _ _ ?_
  · rintro _ σ _ ⟨i, rfl, hi, rfl, h6, h12, h13, h5⟩
    simp (dsimp := false) [h6, h12, h13, h5]
    split
    · rename_i hlt
      have hn := numB_take hlt
      have hb := numB_256 (l := s.take (i + 1)) (by simp; omega)
      rw [hn] at hb
      have hw : IntKind.u64.wrap ((numB (s.take i) : Nat) * 256) = ((numB (s.take i) * 256 : Nat) : Int) := by
        have := wrap_u64' (n := numB (s.take i) * 256) (Nat.lt_of_le_of_lt (Nat.le_add_right _ _) hb)
        simpa using this
      have hx : s[i].toNat < 256 := s[i].toNat_lt
      simp (dsimp := false) [hlt, hw, h6, h12, h13, h5, wrap_u64' (Nat.lt_of_le_of_lt (Nat.le_add_left _ _) hb), or_u64 hb hx, wrap_succ hlt (by omega)]
      exact ⟨_, by omega, i + 1, rfl, by omega, by simp, by rw [hn]; simp⟩
    · obtain rfl : i = s.length := by omega
      simp (dsimp := false) [leave_len hlen]
  · exact ⟨0, by simp (dsimp := false) [numB]⟩
theorem rd_U8 (hr : isRdr l[b]? = true) : Does Tryz.prog C 98 [.ptr b 0 0 2] ⟨l, es⟩ = some (.int .i64 (numB (tkS 1 (rdS l[b]?) (rdE l[b]?)) : Nat), ⟨l.set b (rdr (tkR 1 (rdS l[b]?) (rdE l[b]?)) (tkE 1 (rdS l[b]?) (rdE l[b]?))), es⟩) := by
  have h1 := rd_number (C := C) (n := 1) (es := []) hr (by omega)
  have hb := numB_4 (Nat.le_trans (tkS_len 1 (rdS l[b]?) (rdE l[b]?)) (by decide))
  refine Does_eq (n := 6) (rs := [.tmp 2]) Tryz.func98 (by kernel_rfl) rfl rfl rfl (by simp) fun σ hg => ?_
  simp (dsimp := false) [hg, h1, wrap_i64 (n := (numB (tkS 1 (rdS l[b]?) (rdE l[b]?)) : Nat)) (by omega) (by omega)]
theorem rd_U16 (hr : isRdr l[b]? = true) : Does Tryz.prog C 58 [.ptr b 0 0 2] ⟨l, es⟩ = some (.int .i64 (numB (tkS 2 (rdS l[b]?) (rdE l[b]?)) : Nat), ⟨l.set b (rdr (tkR 2 (rdS l[b]?) (rdE l[b]?)) (tkE 2 (rdS l[b]?) (rdE l[b]?))), es⟩) := by
  have h1 := rd_number (C := C) (n := 2) (es := []) hr (by omega)
  have hb := numB_4 (Nat.le_trans (tkS_len 2 (rdS l[b]?) (rdE l[b]?)) (by decide))
  refine Does_eq (n := 6) (rs := [.tmp 2]) Tryz.func58 (by kernel_rfl) rfl rfl rfl (by simp) fun σ hg => ?_
  simp (dsimp := false) [hg, h1, wrap_i64 (n := (numB (tkS 2 (rdS l[b]?) (rdE l[b]?)) : Nat)) (by omega) (by omega)]
theorem rd_U32 (hr : isRdr l[b]? = true) : Does Tryz.prog C 59 [.ptr b 0 0 2] ⟨l, es⟩ = some (.int .u32 (numB (tkS 4 (rdS l[b]?) (rdE l[b]?)) : Nat), ⟨l.set b (rdr (tkR 4 (rdS l[b]?) (rdE l[b]?)) (tkE 4 (rdS l[b]?) (rdE l[b]?))), es⟩) := by
  have h1 := rd_number (C := C) (n := 4) (es := []) hr (by omega)
  have hb := numB_4 (Nat.le_trans (tkS_len 4 (rdS l[b]?) (rdE l[b]?)) (by decide))
  refine Does_eq (n := 6) (rs := [.tmp 2]) Tryz.func59 (by kernel_rfl) rfl rfl rfl (by simp) fun σ hg => ?_
  simp (dsimp := false) [hg, h1, wrap_u32 hb]
theorem rd_Rest (hr : isRdr l[b]? = true) : Does Tryz.prog C 119 [.ptr b 0 0 2] ⟨l, es⟩ = some (.str (if rdE l[b]? = 0 then rdS l[b]? else []), ⟨l.set b (rdr (if rdE l[b]? = 0 then [] else rdS l[b]?) (rdE l[b]?)), es⟩) := by
  have h1 := rd_Left (C := C) (es := []) hr
  have h2 := fun n => rd_Take (C := C) (es := []) (n := n) hr
  obtain ⟨s, e, hr⟩ := isRdr_get hr
  refine Does_eq (n := 7) (rs := [.tmp 2]) Tryz.func119 (by kernel_rfl) rfl rfl rfl (by simp) fun σ hg => ?_
  simp (dsimp := false) [hg, h1, h2, hr, leftN, tkS, tkR, tkE, noTake]
  by_cases he : e = 0
  · simp (dsimp := false) [he]
  · simp (dsimp := false) [he, failE]
@[simp] theorem octet_Pad {n : Int} {h : H} : Does Tryz.prog C 100 [.int .i64 n] h = some (.int .i64 ((-n) % 4), h) := by
  refine Does_eq (n := 6) (rs := [.tmp 2]) Tryz.func100 (by kernel_rfl) rfl rfl rfl (by simp) fun σ hg => ?_
  simp (dsimp := false) [hg, and_3, IntKind.wrap, IntKind.signed]
  split <;> omega
theorem rd_Fill {n : Int} (hr : isRdr l[b]? = true) : Does Tryz.prog C 101 [.ptr b 0 0 2, .int .i64 n] ⟨l, es⟩ = some (.tup [], ⟨l.set b (rdr (flR n (rdS l[b]?) (rdE l[b]?)) (flE n (rdS l[b]?) (rdE l[b]?))), es⟩) := by
  have h1 := rd_Left (C := C) (es := []) hr
  have h2 := fun n => rd_Take (C := C) (es := []) (n := n) hr
  have h3 := fl_len n (rdS l[b]?) (rdE l[b]?)
  have h4 : ∀ (r : Bs) (e : Int), isRdr (l.set b (rdr r e))[b]? = true := fun r e => by
    obtain ⟨s, e', hr⟩ := isRdr_get hr
    rw [get_set (lt_of_some hr)]
    simp
  have h5 : ∀ (r : Bs) (e : Int), rdE (l.set b (rdr r e))[b]? = e := fun r e' => by
    obtain ⟨s, e, hr⟩ := isRdr_get hr
    rw [get_set (lt_of_some hr)]
    simp
  have h6 : ∀ (r : Bs) (e : Int), rdS (l.set b (rdr r e))[b]? = r := fun r e' => by
    obtain ⟨s, e, hr⟩ := isRdr_get hr
    rw [get_set (lt_of_some hr)]
    simp
  refine Does_eq (n := 19) (rs := []) Tryz.func101 (by kernel_rfl) rfl rfl rfl (by simp) fun σ hg => ?_
  rw [flE, flR]
  simp (dsimp := false) [hg, h1]
  rw [show (if leftN (rdS l[b]?) (rdE l[b]?) < -n % 4 then leftN (rdS l[b]?) (rdE l[b]?) else -n % 4) = flN n (rdS l[b]?) (rdE l[b]?) from rfl]
  generalize flN n (rdS l[b]?) (rdE l[b]?) = k at *
  simp (dsimp := false) [h2]
  generalize tkS k (rdS l[b]?) (rdE l[b]?) = s at *
  have h7 := take_000 h3
  simp (dsimp := false) [h7]
  split
  · exact ⟨by omega, rfl⟩
  · rename_i hc
    refine ⟨by omega, ?_⟩
    simp (dsimp := false) [h4, h5, h6, hg, rd_Fail, if_neg hc]
theorem rd_End (hr : isRdr l[b]? = true) : Does Tryz.prog C 74 [.ptr b 0 0 2] ⟨l, es⟩ = some (.int .i64 (endE (rdS l[b]?) (rdE l[b]?)), ⟨l.set b (rdr (rdS l[b]?) (endE (rdS l[b]?) (rdE l[b]?))), es⟩) := by
  have h1 := rd_Err (C := C) (es := []) hr
  have h2 := rd_Fail (C := C) (es := []) (x := 3) hr
  have h4 : ∀ (r : Bs) (e : Int), isRdr (l.set b (rdr r e))[b]? = true := fun r e => by
    obtain ⟨s, e', hr⟩ := isRdr_get hr
    rw [get_set (lt_of_some hr)]
    simp
  have h5 : ∀ (r : Bs) (e : Int), rdE (l.set b (rdr r e))[b]? = e := fun r e' => by
    obtain ⟨s, e, hr⟩ := isRdr_get hr
    rw [get_set (lt_of_some hr)]
    simp
  obtain ⟨s, e, hr⟩ := isRdr_get hr
  refine Does_eq (n := 18) (rs := [.tmp 2]) Tryz.func74 (by kernel_rfl) rfl rfl rfl (by simp) fun σ hg => ?_
  simp (dsimp := false) [hg, h1, h2, hr, endE]
  by_cases he : e = 0
  · by_cases hs : s = []
    · simp (dsimp := false) [he, hs, hr, set_self]
    · have : 0 < s.length := List.length_pos_iff.2 hs
      simp (dsimp := false) [he, hs, hg, hr, this, h4, h5, failE, rd_Err, endE]
  · simp (dsimp := false) [he, hr, set_self]
@[simp] theorem octet_New {s : Bs} {h : H} : Does Tryz.prog C 57 [.str s] h = some (.ptr h.blks.length 0 0 2, ⟨h.blks ++ [RS.blk ⟨s, 0⟩], h.esc⟩) := by
  refine Does_eq (n := 6) (rs := [.tmp 2]) Tryz.func57 (by kernel_rfl) rfl rfl rfl (by simp) fun σ hg => ?_
  simp (dsimp := false) [hg, splice, RS.blk]
variable {r : RS}
theorem rs_is (hr : l[b]? = some r.blk) : isRdr l[b]? = true := by rw [hr, RS.blk]; simp
theorem r_Err (hr : l[b]? = some r.blk) : Does Tryz.prog C 60 [.ptr b 0 0 2] ⟨l, es⟩ = some (.int .i64 r.e, ⟨l.set b r.blk, es⟩) := by
  rw [set_self hr]
  rw [rd_Err (rs_is hr), hr, RS.blk]; simp (dsimp := false)
theorem r_Left (hr : l[b]? = some r.blk) : Does Tryz.prog C 68 [.ptr b 0 0 2] ⟨l, es⟩ = some (.int .i64 r.left, ⟨l.set b r.blk, es⟩) := by
  rw [set_self hr]
  rw [rd_Left (rs_is hr), hr, RS.blk]; simp (dsimp := false) [RS.left]
theorem r_Fail {x : Int} (hr : l[b]? = some r.blk) : Does Tryz.prog C 69 [.ptr b 0 0 2, .int .i64 x] ⟨l, es⟩ = some (.tup [], ⟨l.set b (r.fail x).blk, es⟩) := by
  rw [rd_Fail (rs_is hr), hr, RS.blk]; simp (dsimp := false) [RS.blk, RS.fail]
theorem r_Take {n : Int} (hr : l[b]? = some r.blk) : Does Tryz.prog C 99 [.ptr b 0 0 2, .int .i64 n] ⟨l, es⟩ = some (.str (r.got n), ⟨l.set b (r.tk n).blk, es⟩) := by
  rw [rd_Take (rs_is hr), hr, RS.blk]; simp (dsimp := false) [RS.blk, RS.got, RS.tk]
theorem r_U8 (hr : l[b]? = some r.blk) : Does Tryz.prog C 98 [.ptr b 0 0 2] ⟨l, es⟩ = some (.int .i64 (r.num 1 : Nat), ⟨l.set b (r.tk 1).blk, es⟩) := by
  rw [rd_U8 (rs_is hr), hr, RS.blk]; simp (dsimp := false) [RS.blk, RS.got, RS.tk, RS.num]
theorem r_U16 (hr : l[b]? = some r.blk) : Does Tryz.prog C 58 [.ptr b 0 0 2] ⟨l, es⟩ = some (.int .i64 (r.num 2 : Nat), ⟨l.set b (r.tk 2).blk, es⟩) := by
  rw [rd_U16 (rs_is hr), hr, RS.blk]; simp (dsimp := false) [RS.blk, RS.got, RS.tk, RS.num]
theorem r_U32 (hr : l[b]? = some r.blk) : Does Tryz.prog C 59 [.ptr b 0 0 2] ⟨l, es⟩ = some (.int .u32 (r.num 4 : Nat), ⟨l.set b (r.tk 4).blk, es⟩) := by
  rw [rd_U32 (rs_is hr), hr, RS.blk]; simp (dsimp := false) [RS.blk, RS.got, RS.tk, RS.num]
theorem r_Rest (hr : l[b]? = some r.blk) : Does Tryz.prog C 119 [.ptr b 0 0 2] ⟨l, es⟩ = some (.str r.rest, ⟨l.set b r.gone.blk, es⟩) := by
  rw [rd_Rest (rs_is hr), hr, RS.blk]; simp (dsimp := false) [RS.blk, RS.rest, RS.gone]
theorem r_Fill {n : Int} (hr : l[b]? = some r.blk) : Does Tryz.prog C 101 [.ptr b 0 0 2, .int .i64 n] ⟨l, es⟩ = some (.tup [], ⟨l.set b (r.fill n).blk, es⟩) := by
  rw [rd_Fill (rs_is hr), hr, RS.blk]; simp (dsimp := false) [RS.blk, RS.fill]
theorem r_End (hr : l[b]? = some r.blk) : Does Tryz.prog C 74 [.ptr b 0 0 2] ⟨l, es⟩ = some (.int .i64 r.end.e, ⟨l.set b r.end.blk, es⟩) := by
  rw [rd_End (rs_is hr), hr, RS.blk]; simp (dsimp := false) [RS.blk, RS.end]
end
@[simp] theorem r_Err_A {l m : List Blk} {es : List (Nat × Nat)} {b : Nat} {r : RS}  (hlt : b < l.length) : Does Tryz.prog C 60 [.ptr b 0 0 2] ⟨l.set b r.blk ++ m, es⟩ = some (.int .i64 r.e, ⟨l.set b (r).blk ++ m, es⟩) := by
  rw [r_Err (r := r) (by rw [get_app (by simpa using hlt), get_set hlt]), set_app (by simpa using hlt), List.set_set]
@[simp] theorem r_Err_A0 {l : List Blk} {es : List (Nat × Nat)} {b : Nat} {r : RS}  (hlt : b < l.length) : Does Tryz.prog C 60 [.ptr b 0 0 2] ⟨l.set b r.blk, es⟩ = some (.int .i64 r.e, ⟨l.set b (r).blk, es⟩) := by
  rw [r_Err (r := r) (by rw [get_set hlt]), List.set_set]
@[simp] theorem r_Err_L0 {l m : List Blk} {es : List (Nat × Nat)} {n : Nat} {r : RS}  (hn : n = l.length) : Does Tryz.prog C 60 [.ptr n 0 0 2] ⟨l ++ r.blk :: m, es⟩ = some (.int .i64 r.e, ⟨l ++ (r).blk :: m, es⟩) := by
  subst hn
  rw [r_Err (r := r) (by simp)]
  simp
@[simp] theorem r_Err_L1 {l m : List Blk} {y0 : Blk} {es : List (Nat × Nat)} {n : Nat} {r : RS}  (hn : n = l.length + 1) : Does Tryz.prog C 60 [.ptr n 0 0 2] ⟨l ++ y0 :: r.blk :: m, es⟩ = some (.int .i64 r.e, ⟨l ++ y0 :: (r).blk :: m, es⟩) := by
  subst hn
  rw [r_Err (r := r) (by simp)]
  simp
@[simp] theorem r_Err_L2 {l m : List Blk} {y0 y1 : Blk} {es : List (Nat × Nat)} {n : Nat} {r : RS}  (hn : n = l.length + 2) : Does Tryz.prog C 60 [.ptr n 0 0 2] ⟨l ++ y0 :: y1 :: r.blk :: m, es⟩ = some (.int .i64 r.e, ⟨l ++ y0 :: y1 :: (r).blk :: m, es⟩) := by
  subst hn
  rw [r_Err (r := r) (by simp)]
  simp
@[simp] theorem r_Err_L3 {l m : List Blk} {y0 y1 y2 : Blk} {es : List (Nat × Nat)} {n : Nat} {r : RS}  (hn : n = l.length + 3) : Does Tryz.prog C 60 [.ptr n 0 0 2] ⟨l ++ y0 :: y1 :: y2 :: r.blk :: m, es⟩ = some (.int .i64 r.e, ⟨l ++ y0 :: y1 :: y2 :: (r).blk :: m, es⟩) := by
  subst hn
  rw [r_Err (r := r) (by simp)]
  simp
@[simp] theorem r_Left_A {l m : List Blk} {es : List (Nat × Nat)} {b : Nat} {r : RS}  (hlt : b < l.length) : Does Tryz.prog C 68 [.ptr b 0 0 2] ⟨l.set b r.blk ++ m, es⟩ = some (.int .i64 r.left, ⟨l.set b (r).blk ++ m, es⟩) := by
  rw [r_Left (r := r) (by rw [get_app (by simpa using hlt), get_set hlt]), set_app (by simpa using hlt), List.set_set]
@[simp] theorem r_Left_A0 {l : List Blk} {es : List (Nat × Nat)} {b : Nat} {r : RS}  (hlt : b < l.length) : Does Tryz.prog C 68 [.ptr b 0 0 2] ⟨l.set b r.blk, es⟩ = some (.int .i64 r.left, ⟨l.set b (r).blk, es⟩) := by
  rw [r_Left (r := r) (by rw [get_set hlt]), List.set_set]
@[simp] theorem r_Left_L0 {l m : List Blk} {es : List (Nat × Nat)} {n : Nat} {r : RS}  (hn : n = l.length) : Does Tryz.prog C 68 [.ptr n 0 0 2] ⟨l ++ r.blk :: m, es⟩ = some (.int .i64 r.left, ⟨l ++ (r).blk :: m, es⟩) := by
  subst hn
  rw [r_Left (r := r) (by simp)]
  simp
@[simp] theorem r_Left_L1 {l m : List Blk} {y0 : Blk} {es : List (Nat × Nat)} {n : Nat} {r : RS}  (hn : n = l.length + 1) : Does Tryz.prog C 68 [.ptr n 0 0 2] ⟨l ++ y0 :: r.blk :: m, es⟩ = some (.int .i64 r.left, ⟨l ++ y0 :: (r).blk :: m, es⟩) := by
  subst hn
  rw [r_Left (r := r) (by simp)]
  simp
@[simp] theorem r_Left_L2 {l m : List Blk} {y0 y1 : Blk} {es : List (Nat × Nat)} {n : Nat} {r : RS}  (hn : n = l.length + 2) : Does Tryz.prog C 68 [.ptr n 0 0 2] ⟨l ++ y0 :: y1 :: r.blk :: m, es⟩ = some (.int .i64 r.left, ⟨l ++ y0 :: y1 :: (r).blk :: m, es⟩) := by
  subst hn
  rw [r_Left (r := r) (by simp)]
  simp
@[simp] theorem r_Left_L3 {l m : List Blk} {y0 y1 y2 : Blk} {es : List (Nat × Nat)} {n : Nat} {r : RS}  (hn : n = l.length + 3) : Does Tryz.prog C 68 [.ptr n 0 0 2] ⟨l ++ y0 :: y1 :: y2 :: r.blk :: m, es⟩ = some (.int .i64 r.left, ⟨l ++ y0 :: y1 :: y2 :: (r).blk :: m, es⟩) := by
  subst hn
  rw [r_Left (r := r) (by simp)]
  simp
@[simp] theorem r_Fail_A {l m : List Blk} {es : List (Nat × Nat)} {b : Nat} {r : RS} {x : Int} (hlt : b < l.length) : Does Tryz.prog C 69 [.ptr b 0 0 2, .int .i64 x] ⟨l.set b r.blk ++ m, es⟩ = some (.tup [], ⟨l.set b (r.fail x).blk ++ m, es⟩) := by
  rw [r_Fail (r := r) (by rw [get_app (by simpa using hlt), get_set hlt]), set_app (by simpa using hlt), List.set_set]
@[simp] theorem r_Fail_A0 {l : List Blk} {es : List (Nat × Nat)} {b : Nat} {r : RS} {x : Int} (hlt : b < l.length) : Does Tryz.prog C 69 [.ptr b 0 0 2, .int .i64 x] ⟨l.set b r.blk, es⟩ = some (.tup [], ⟨l.set b (r.fail x).blk, es⟩) := by
  rw [r_Fail (r := r) (by rw [get_set hlt]), List.set_set]
@[simp] theorem r_Fail_L0 {l m : List Blk} {es : List (Nat × Nat)} {n : Nat} {r : RS} {x : Int} (hn : n = l.length) : Does Tryz.prog C 69 [.ptr n 0 0 2, .int .i64 x] ⟨l ++ r.blk :: m, es⟩ = some (.tup [], ⟨l ++ (r.fail x).blk :: m, es⟩) := by
  subst hn
  rw [r_Fail (r := r) (by simp)]
  simp
@[simp] theorem r_Fail_L1 {l m : List Blk} {y0 : Blk} {es : List (Nat × Nat)} {n : Nat} {r : RS} {x : Int} (hn : n = l.length + 1) : Does Tryz.prog C 69 [.ptr n 0 0 2, .int .i64 x] ⟨l ++ y0 :: r.blk :: m, es⟩ = some (.tup [], ⟨l ++ y0 :: (r.fail x).blk :: m, es⟩) := by
  subst hn
  rw [r_Fail (r := r) (by simp)]
  simp
@[simp] theorem r_Fail_L2 {l m : List Blk} {y0 y1 : Blk} {es : List (Nat × Nat)} {n : Nat} {r : RS} {x : Int} (hn : n = l.length + 2) : Does Tryz.prog C 69 [.ptr n 0 0 2, .int .i64 x] ⟨l ++ y0 :: y1 :: r.blk :: m, es⟩ = some (.tup [], ⟨l ++ y0 :: y1 :: (r.fail x).blk :: m, es⟩) := by
  subst hn
  rw [r_Fail (r := r) (by simp)]
  simp
@[simp] theorem r_Fail_L3 {l m : List Blk} {y0 y1 y2 : Blk} {es : List (Nat × Nat)} {n : Nat} {r : RS} {x : Int} (hn : n = l.length + 3) : Does Tryz.prog C 69 [.ptr n 0 0 2, .int .i64 x] ⟨l ++ y0 :: y1 :: y2 :: r.blk :: m, es⟩ = some (.tup [], ⟨l ++ y0 :: y1 :: y2 :: (r.fail x).blk :: m, es⟩) := by
  subst hn
  rw [r_Fail (r := r) (by simp)]
  simp
@[simp] theorem r_Take_A {l m : List Blk} {es : List (Nat × Nat)} {b : Nat} {r : RS} {k : Int} (hlt : b < l.length) : Does Tryz.prog C 99 [.ptr b 0 0 2, .int .i64 k] ⟨l.set b r.blk ++ m, es⟩ = some (.str (r.got k), ⟨l.set b (r.tk k).blk ++ m, es⟩) := by
  rw [r_Take (r := r) (by rw [get_app (by simpa using hlt), get_set hlt]), set_app (by simpa using hlt), List.set_set]
@[simp] theorem r_Take_A0 {l : List Blk} {es : List (Nat × Nat)} {b : Nat} {r : RS} {k : Int} (hlt : b < l.length) : Does Tryz.prog C 99 [.ptr b 0 0 2, .int .i64 k] ⟨l.set b r.blk, es⟩ = some (.str (r.got k), ⟨l.set b (r.tk k).blk, es⟩) := by
  rw [r_Take (r := r) (by rw [get_set hlt]), List.set_set]
@[simp] theorem r_Take_L0 {l m : List Blk} {es : List (Nat × Nat)} {n : Nat} {r : RS} {k : Int} (hn : n = l.length) : Does Tryz.prog C 99 [.ptr n 0 0 2, .int .i64 k] ⟨l ++ r.blk :: m, es⟩ = some (.str (r.got k), ⟨l ++ (r.tk k).blk :: m, es⟩) := by
  subst hn
  rw [r_Take (r := r) (by simp)]
  simp
@[simp] theorem r_Take_L1 {l m : List Blk} {y0 : Blk} {es : List (Nat × Nat)} {n : Nat} {r : RS} {k : Int} (hn : n = l.length + 1) : Does Tryz.prog C 99 [.ptr n 0 0 2, .int .i64 k] ⟨l ++ y0 :: r.blk :: m, es⟩ = some (.str (r.got k), ⟨l ++ y0 :: (r.tk k).blk :: m, es⟩) := by
  subst hn
  rw [r_Take (r := r) (by simp)]
  simp
@[simp] theorem r_Take_L2 {l m : List Blk} {y0 y1 : Blk} {es : List (Nat × Nat)} {n : Nat} {r : RS} {k : Int} (hn : n = l.length + 2) : Does Tryz.prog C 99 [.ptr n 0 0 2, .int .i64 k] ⟨l ++ y0 :: y1 :: r.blk :: m, es⟩ = some (.str (r.got k), ⟨l ++ y0 :: y1 :: (r.tk k).blk :: m, es⟩) := by
  subst hn
  rw [r_Take (r := r) (by simp)]
  simp
@[simp] theorem r_Take_L3 {l m : List Blk} {y0 y1 y2 : Blk} {es : List (Nat × Nat)} {n : Nat} {r : RS} {k : Int} (hn : n = l.length + 3) : Does Tryz.prog C 99 [.ptr n 0 0 2, .int .i64 k] ⟨l ++ y0 :: y1 :: y2 :: r.blk :: m, es⟩ = some (.str (r.got k), ⟨l ++ y0 :: y1 :: y2 :: (r.tk k).blk :: m, es⟩) := by
  subst hn
  rw [r_Take (r := r) (by simp)]
  simp
@[simp] theorem r_U8_A {l m : List Blk} {es : List (Nat × Nat)} {b : Nat} {r : RS}  (hlt : b < l.length) : Does Tryz.prog C 98 [.ptr b 0 0 2] ⟨l.set b r.blk ++ m, es⟩ = some (.int .i64 (r.num 1 : Nat), ⟨l.set b (r.tk 1).blk ++ m, es⟩) := by
  rw [r_U8 (r := r) (by rw [get_app (by simpa using hlt), get_set hlt]), set_app (by simpa using hlt), List.set_set]
@[simp] theorem r_U8_A0 {l : List Blk} {es : List (Nat × Nat)} {b : Nat} {r : RS}  (hlt : b < l.length) : Does Tryz.prog C 98 [.ptr b 0 0 2] ⟨l.set b r.blk, es⟩ = some (.int .i64 (r.num 1 : Nat), ⟨l.set b (r.tk 1).blk, es⟩) := by
  rw [r_U8 (r := r) (by rw [get_set hlt]), List.set_set]
@[simp] theorem r_U8_L0 {l m : List Blk} {es : List (Nat × Nat)} {n : Nat} {r : RS}  (hn : n = l.length) : Does Tryz.prog C 98 [.ptr n 0 0 2] ⟨l ++ r.blk :: m, es⟩ = some (.int .i64 (r.num 1 : Nat), ⟨l ++ (r.tk 1).blk :: m, es⟩) := by
  subst hn
  rw [r_U8 (r := r) (by simp)]
  simp
@[simp] theorem r_U8_L1 {l m : List Blk} {y0 : Blk} {es : List (Nat × Nat)} {n : Nat} {r : RS}  (hn : n = l.length + 1) : Does Tryz.prog C 98 [.ptr n 0 0 2] ⟨l ++ y0 :: r.blk :: m, es⟩ = some (.int .i64 (r.num 1 : Nat), ⟨l ++ y0 :: (r.tk 1).blk :: m, es⟩) := by
  subst hn
  rw [r_U8 (r := r) (by simp)]
  simp
@[simp] theorem r_U8_L2 {l m : List Blk} {y0 y1 : Blk} {es : List (Nat × Nat)} {n : Nat} {r : RS}  (hn : n = l.length + 2) : Does Tryz.prog C 98 [.ptr n 0 0 2] ⟨l ++ y0 :: y1 :: r.blk :: m, es⟩ = some (.int .i64 (r.num 1 : Nat), ⟨l ++ y0 :: y1 :: (r.tk 1).blk :: m, es⟩) := by
  subst hn
  rw [r_U8 (r := r) (by simp)]
  simp
@[simp] theorem r_U8_L3 {l m : List Blk} {y0 y1 y2 : Blk} {es : List (Nat × Nat)} {n : Nat} {r : RS}  (hn : n = l.length + 3) : Does Tryz.prog C 98 [.ptr n 0 0 2] ⟨l ++ y0 :: y1 :: y2 :: r.blk :: m, es⟩ = some (.int .i64 (r.num 1 : Nat), ⟨l ++ y0 :: y1 :: y2 :: (r.tk 1).blk :: m, es⟩) := by
  subst hn
  rw [r_U8 (r := r) (by simp)]
  simp
@[simp] theorem r_U16_A {l m : List Blk} {es : List (Nat × Nat)} {b : Nat} {r : RS}  (hlt : b < l.length) : Does Tryz.prog C 58 [.ptr b 0 0 2] ⟨l.set b r.blk ++ m, es⟩ = some (.int .i64 (r.num 2 : Nat), ⟨l.set b (r.tk 2).blk ++ m, es⟩) := by
  rw [r_U16 (r := r) (by rw [get_app (by simpa using hlt), get_set hlt]), set_app (by simpa using hlt), List.set_set]
@[simp] theorem r_U16_A0 {l : List Blk} {es : List (Nat × Nat)} {b : Nat} {r : RS}  (hlt : b < l.length) : Does Tryz.prog C 58 [.ptr b 0 0 2] ⟨l.set b r.blk, es⟩ = some (.int .i64 (r.num 2 : Nat), ⟨l.set b (r.tk 2).blk, es⟩) := by
  rw [r_U16 (r := r) (by rw [get_set hlt]), List.set_set]
@[simp] theorem r_U16_L0 {l m : List Blk} {es : List (Nat × Nat)} {n : Nat} {r : RS}  (hn : n = l.length) : Does Tryz.prog C 58 [.ptr n 0 0 2] ⟨l ++ r.blk :: m, es⟩ = some (.int .i64 (r.num 2 : Nat), ⟨l ++ (r.tk 2).blk :: m, es⟩) := by
  subst hn
  rw [r_U16 (r := r) (by simp)]
  simp
@[simp] theorem r_U16_L1 {l m : List Blk} {y0 : Blk} {es : List (Nat × Nat)} {n : Nat} {r : RS}  (hn : n = l.length + 1) : Does Tryz.prog C 58 [.ptr n 0 0 2] ⟨l ++ y0 :: r.blk :: m, es⟩ = some (.int .i64 (r.num 2 : Nat), ⟨l ++ y0 :: (r.tk 2).blk :: m, es⟩) := by
  subst hn
  rw [r_U16 (r := r) (by simp)]
  simp
@[simp] theorem r_U16_L2 {l m : List Blk} {y0 y1 : Blk} {es : List (Nat × Nat)} {n : Nat} {r : RS}  (hn : n = l.length + 2) : Does Tryz.prog C 58 [.ptr n 0 0 2] ⟨l ++ y0 :: y1 :: r.blk :: m, es⟩ = some (.int .i64 (r.num 2 : Nat), ⟨l ++ y0 :: y1 :: (r.tk 2).blk :: m, es⟩) := by
  subst hn
  rw [r_U16 (r := r) (by simp)]
  simp
@[simp] theorem r_U16_L3 {l m : List Blk} {y0 y1 y2 : Blk} {es : List (Nat × Nat)} {n : Nat} {r : RS}  (hn : n = l.length + 3) : Does Tryz.prog C 58 [.ptr n 0 0 2] ⟨l ++ y0 :: y1 :: y2 :: r.blk :: m, es⟩ = some (.int .i64 (r.num 2 : Nat), ⟨l ++ y0 :: y1 :: y2 :: (r.tk 2).blk :: m, es⟩) := by
  subst hn
  rw [r_U16 (r := r) (by simp)]
  simp
@[simp] theorem r_U32_A {l m : List Blk} {es : List (Nat × Nat)} {b : Nat} {r : RS}  (hlt : b < l.length) : Does Tryz.prog C 59 [.ptr b 0 0 2] ⟨l.set b r.blk ++ m, es⟩ = some (.int .u32 (r.num 4 : Nat), ⟨l.set b (r.tk 4).blk ++ m, es⟩) := by
  rw [r_U32 (r := r) (by rw [get_app (by simpa using hlt), get_set hlt]), set_app (by simpa using hlt), List.set_set]
@[simp] theorem r_U32_A0 {l : List Blk} {es : List (Nat × Nat)} {b : Nat} {r : RS}  (hlt : b < l.length) : Does Tryz.prog C 59 [.ptr b 0 0 2] ⟨l.set b r.blk, es⟩ = some (.int .u32 (r.num 4 : Nat), ⟨l.set b (r.tk 4).blk, es⟩) := by
  rw [r_U32 (r := r) (by rw [get_set hlt]), List.set_set]
@[simp] theorem r_U32_L0 {l m : List Blk} {es : List (Nat × Nat)} {n : Nat} {r : RS}  (hn : n = l.length) : Does Tryz.prog C 59 [.ptr n 0 0 2] ⟨l ++ r.blk :: m, es⟩ = some (.int .u32 (r.num 4 : Nat), ⟨l ++ (r.tk 4).blk :: m, es⟩) := by
  subst hn
  rw [r_U32 (r := r) (by simp)]
  simp
@[simp] theorem r_U32_L1 {l m : List Blk} {y0 : Blk} {es : List (Nat × Nat)} {n : Nat} {r : RS}  (hn : n = l.length + 1) : Does Tryz.prog C 59 [.ptr n 0 0 2] ⟨l ++ y0 :: r.blk :: m, es⟩ = some (.int .u32 (r.num 4 : Nat), ⟨l ++ y0 :: (r.tk 4).blk :: m, es⟩) := by
  subst hn
  rw [r_U32 (r := r) (by simp)]
  simp
@[simp] theorem r_U32_L2 {l m : List Blk} {y0 y1 : Blk} {es : List (Nat × Nat)} {n : Nat} {r : RS}  (hn : n = l.length + 2) : Does Tryz.prog C 59 [.ptr n 0 0 2] ⟨l ++ y0 :: y1 :: r.blk :: m, es⟩ = some (.int .u32 (r.num 4 : Nat), ⟨l ++ y0 :: y1 :: (r.tk 4).blk :: m, es⟩) := by
  subst hn
  rw [r_U32 (r := r) (by simp)]
  simp
@[simp] theorem r_U32_L3 {l m : List Blk} {y0 y1 y2 : Blk} {es : List (Nat × Nat)} {n : Nat} {r : RS}  (hn : n = l.length + 3) : Does Tryz.prog C 59 [.ptr n 0 0 2] ⟨l ++ y0 :: y1 :: y2 :: r.blk :: m, es⟩ = some (.int .u32 (r.num 4 : Nat), ⟨l ++ y0 :: y1 :: y2 :: (r.tk 4).blk :: m, es⟩) := by
  subst hn
  rw [r_U32 (r := r) (by simp)]
  simp
@[simp] theorem r_Rest_A {l m : List Blk} {es : List (Nat × Nat)} {b : Nat} {r : RS}  (hlt : b < l.length) : Does Tryz.prog C 119 [.ptr b 0 0 2] ⟨l.set b r.blk ++ m, es⟩ = some (.str r.rest, ⟨l.set b (r.gone).blk ++ m, es⟩) := by
  rw [r_Rest (r := r) (by rw [get_app (by simpa using hlt), get_set hlt]), set_app (by simpa using hlt), List.set_set]
@[simp] theorem r_Rest_A0 {l : List Blk} {es : List (Nat × Nat)} {b : Nat} {r : RS}  (hlt : b < l.length) : Does Tryz.prog C 119 [.ptr b 0 0 2] ⟨l.set b r.blk, es⟩ = some (.str r.rest, ⟨l.set b (r.gone).blk, es⟩) := by
  rw [r_Rest (r := r) (by rw [get_set hlt]), List.set_set]
@[simp] theorem r_Rest_L0 {l m : List Blk} {es : List (Nat × Nat)} {n : Nat} {r : RS}  (hn : n = l.length) : Does Tryz.prog C 119 [.ptr n 0 0 2] ⟨l ++ r.blk :: m, es⟩ = some (.str r.rest, ⟨l ++ (r.gone).blk :: m, es⟩) := by
  subst hn
  rw [r_Rest (r := r) (by simp)]
  simp
@[simp] theorem r_Rest_L1 {l m : List Blk} {y0 : Blk} {es : List (Nat × Nat)} {n : Nat} {r : RS}  (hn : n = l.length + 1) : Does Tryz.prog C 119 [.ptr n 0 0 2] ⟨l ++ y0 :: r.blk :: m, es⟩ = some (.str r.rest, ⟨l ++ y0 :: (r.gone).blk :: m, es⟩) := by
  subst hn
  rw [r_Rest (r := r) (by simp)]
  simp
@[simp] theorem r_Rest_L2 {l m : List Blk} {y0 y1 : Blk} {es : List (Nat × Nat)} {n : Nat} {r : RS}  (hn : n = l.length + 2) : Does Tryz.prog C 119 [.ptr n 0 0 2] ⟨l ++ y0 :: y1 :: r.blk :: m, es⟩ = some (.str r.rest, ⟨l ++ y0 :: y1 :: (r.gone).blk :: m, es⟩) := by
  subst hn
  rw [r_Rest (r := r) (by simp)]
  simp
@[simp] theorem r_Rest_L3 {l m : List Blk} {y0 y1 y2 : Blk} {es : List (Nat × Nat)} {n : Nat} {r : RS}  (hn : n = l.length + 3) : Does Tryz.prog C 119 [.ptr n 0 0 2] ⟨l ++ y0 :: y1 :: y2 :: r.blk :: m, es⟩ = some (.str r.rest, ⟨l ++ y0 :: y1 :: y2 :: (r.gone).blk :: m, es⟩) := by
  subst hn
  rw [r_Rest (r := r) (by simp)]
  simp
@[simp] theorem r_Fill_A {l m : List Blk} {es : List (Nat × Nat)} {b : Nat} {r : RS} {k : Int} (hlt : b < l.length) : Does Tryz.prog C 101 [.ptr b 0 0 2, .int .i64 k] ⟨l.set b r.blk ++ m, es⟩ = some (.tup [], ⟨l.set b (r.fill k).blk ++ m, es⟩) := by
  rw [r_Fill (r := r) (by rw [get_app (by simpa using hlt), get_set hlt]), set_app (by simpa using hlt), List.set_set]
@[simp] theorem r_Fill_A0 {l : List Blk} {es : List (Nat × Nat)} {b : Nat} {r : RS} {k : Int} (hlt : b < l.length) : Does Tryz.prog C 101 [.ptr b 0 0 2, .int .i64 k] ⟨l.set b r.blk, es⟩ = some (.tup [], ⟨l.set b (r.fill k).blk, es⟩) := by
  rw [r_Fill (r := r) (by rw [get_set hlt]), List.set_set]
@[simp] theorem r_Fill_L0 {l m : List Blk} {es : List (Nat × Nat)} {n : Nat} {r : RS} {k : Int} (hn : n = l.length) : Does Tryz.prog C 101 [.ptr n 0 0 2, .int .i64 k] ⟨l ++ r.blk :: m, es⟩ = some (.tup [], ⟨l ++ (r.fill k).blk :: m, es⟩) := by
  subst hn
  rw [r_Fill (r := r) (by simp)]
  simp
@[simp] theorem r_Fill_L1 {l m : List Blk} {y0 : Blk} {es : List (Nat × Nat)} {n : Nat} {r : RS} {k : Int} (hn : n = l.length + 1) : Does Tryz.prog C 101 [.ptr n 0 0 2, .int .i64 k] ⟨l ++ y0 :: r.blk :: m, es⟩ = some (.tup [], ⟨l ++ y0 :: (r.fill k).blk :: m, es⟩) := by
  subst hn
  rw [r_Fill (r := r) (by simp)]
  simp
@[simp] theorem r_Fill_L2 {l m : List Blk} {y0 y1 : Blk} {es : List (Nat × Nat)} {n : Nat} {r : RS} {k : Int} (hn : n = l.length + 2) : Does Tryz.prog C 101 [.ptr n 0 0 2, .int .i64 k] ⟨l ++ y0 :: y1 :: r.blk :: m, es⟩ = some (.tup [], ⟨l ++ y0 :: y1 :: (r.fill k).blk :: m, es⟩) := by
  subst hn
  rw [r_Fill (r := r) (by simp)]
  simp
@[simp] theorem r_Fill_L3 {l m : List Blk} {y0 y1 y2 : Blk} {es : List (Nat × Nat)} {n : Nat} {r : RS} {k : Int} (hn : n = l.length + 3) : Does Tryz.prog C 101 [.ptr n 0 0 2, .int .i64 k] ⟨l ++ y0 :: y1 :: y2 :: r.blk :: m, es⟩ = some (.tup [], ⟨l ++ y0 :: y1 :: y2 :: (r.fill k).blk :: m, es⟩) := by
  subst hn
  rw [r_Fill (r := r) (by simp)]
  simp
@[simp] theorem r_End_A {l m : List Blk} {es : List (Nat × Nat)} {b : Nat} {r : RS}  (hlt : b < l.length) : Does Tryz.prog C 74 [.ptr b 0 0 2] ⟨l.set b r.blk ++ m, es⟩ = some (.int .i64 r.end.e, ⟨l.set b (r.end).blk ++ m, es⟩) := by
  rw [r_End (r := r) (by rw [get_app (by simpa using hlt), get_set hlt]), set_app (by simpa using hlt), List.set_set]
@[simp] theorem r_End_A0 {l : List Blk} {es : List (Nat × Nat)} {b : Nat} {r : RS}  (hlt : b < l.length) : Does Tryz.prog C 74 [.ptr b 0 0 2] ⟨l.set b r.blk, es⟩ = some (.int .i64 r.end.e, ⟨l.set b (r.end).blk, es⟩) := by
  rw [r_End (r := r) (by rw [get_set hlt]), List.set_set]
@[simp] theorem r_End_L0 {l m : List Blk} {es : List (Nat × Nat)} {n : Nat} {r : RS}  (hn : n = l.length) : Does Tryz.prog C 74 [.ptr n 0 0 2] ⟨l ++ r.blk :: m, es⟩ = some (.int .i64 r.end.e, ⟨l ++ (r.end).blk :: m, es⟩) := by
  subst hn
  rw [r_End (r := r) (by simp)]
  simp
@[simp] theorem r_End_L1 {l m : List Blk} {y0 : Blk} {es : List (Nat × Nat)} {n : Nat} {r : RS}  (hn : n = l.length + 1) : Does Tryz.prog C 74 [.ptr n 0 0 2] ⟨l ++ y0 :: r.blk :: m, es⟩ = some (.int .i64 r.end.e, ⟨l ++ y0 :: (r.end).blk :: m, es⟩) := by
  subst hn
  rw [r_End (r := r) (by simp)]
  simp
@[simp] theorem r_End_L2 {l m : List Blk} {y0 y1 : Blk} {es : List (Nat × Nat)} {n : Nat} {r : RS}  (hn : n = l.length + 2) : Does Tryz.prog C 74 [.ptr n 0 0 2] ⟨l ++ y0 :: y1 :: r.blk :: m, es⟩ = some (.int .i64 r.end.e, ⟨l ++ y0 :: y1 :: (r.end).blk :: m, es⟩) := by
  subst hn
  rw [r_End (r := r) (by simp)]
  simp
@[simp] theorem r_End_L3 {l m : List Blk} {y0 y1 y2 : Blk} {es : List (Nat × Nat)} {n : Nat} {r : RS}  (hn : n = l.length + 3) : Does Tryz.prog C 74 [.ptr n 0 0 2] ⟨l ++ y0 :: y1 :: y2 :: r.blk :: m, es⟩ = some (.int .i64 r.end.e, ⟨l ++ y0 :: y1 :: y2 :: (r.end).blk :: m, es⟩) := by
  subst hn
  rw [r_End (r := r) (by simp)]
  simp
end Go.Proofs.YtklbbjfbcibghaaGreat
end
section
namespace Go.Proofs.YtklbbjfbcibghaaGreat
open Go.Hl
set_option maxHeartbeats 1000000
variable {C : CallT}
section
variable {h : H}
theorem octet_Filled (s : Bs) (hs : s.length ≤ 4611686018427387904) : Does Tryz.prog C 131 [.str s] h = some (.str (filled s), h) := by
  have hp : (-(s.length : Int)) % 4 = (padN s.length : Nat) := by unfold padN; omega
  have h3 := padN_lt s.length
  have h4 := take_000 (k := padN s.length) (by omega)
  refine Does_eq (n := 9) (rs := [.tmp 2]) Tryz.func131 (by kernel_rfl) rfl rfl rfl (by simp) fun σ hg => ?_
  simp (dsimp := false) [hg, hp, h4]
  refine ⟨by omega, ?_⟩
  simp (dsimp := false) [filled]
  omega
theorem param_May (p : Pm) : Does Tryz.prog C 137 [.agg p.cells] h = some (.bool p.may, h) := by
  refine Does_eq (n := 17) (rs := [.tmp 2]) Tryz.func137 (by kernel_rfl) rfl rfl rfl (by simp) fun σ hg => ?_
  simp (dsimp := false) [hg, Pm.cells]
  by_cases h1 : 0 ≤ p.typ
  · by_cases h2 : p.typ < 65536
    · simp (dsimp := false) [h1, h2, Pm.may]
      omega
    · simp (dsimp := false) [h1, h2, Pm.may]
  · simp (dsimp := false) [h1, Pm.may]
theorem param_Put (p : Pm) : Does Tryz.prog C 141 [.agg p.cells] h = some (.str p.put, h) := by
  have h1 := fun h => param_May (C := C) (h := h) p
  refine Does_eq (n := 19) (rs := [.tmp 2]) Tryz.func141 (by kernel_rfl) rfl rfl rfl (by simp) fun σ hg => ?_
  rw [Pm.cells] at *
  simp (dsimp := false) [hg, h1]
  cases hm : p.may with
  | false => simp (dsimp := false) [hm, Pm.put]
  | true =>
    have hm' := hm
    simp only [Pm.may, Bool.and_eq_true, decide_eq_true_eq] at hm'
    have hw : IntKind.i64.wrap ((p.val.length : Int) + 4) = p.val.length + 4 := wrap_i64 (by omega) (by omega)
    simp
    refine (W_anyF (F := [(4, 2), (10, 2), (10, 7)]) (by kernel_rfl)).2 ?_
    have hF := fun h => octet_Filled (C := C) (h := h) (be2 p.typ ++ (be2 (p.val.length + 4) ++ p.val)) (by simp (dsimp := false) [be2_len]; omega)
    simp (dsimp := false) [octet_U16, hw, be2_len, hF]
    refine ⟨by omega, ?_⟩
    simp (dsimp := false) [Pm.put, hm]
theorem param_PutAll {l : List Pm} {v : V} (hs : Sl h 2 l.length (l.flatMap Pm.cells) v) (hl : l.length ≤ 1000000) : Does Tryz.prog C 139 [v] h = some (.str (putAll l), h) := by
  have hlen := hs.len Tryz.underlying27
  obtain ⟨p, hia, hrd, -⟩ := (hs.blks (h' := ⟨h.blks, []⟩) rfl).at Pm.cells_len
  refine Does_eq (n := 18) (rs := [.tmp 2]) Tryz.func139 (by kernel_rfl) rfl rfl rfl (by simp) fun σ hg => ?_
  simp (dsimp := false) [hg, hlen]
  refine W_loopM (fun k σ h' => ∃ i : Nat, ∃ m, k = l.length - i ∧ i ≤ l.length ∧ h' = ⟨h.blks ++ m, []⟩ ∧ σ 6 = v ∧ σ 7 = .int .i64 l.length ∧ σ 8 = .int .i64 i ∧ σ 3 = .str (putAll (l.take i))) ?_ l.length _ _ ?_
  · rintro _ σ _ ⟨i, m, rfl, hi, rfl, h6, h7, h8, h3⟩
    simp (dsimp := false) [h6, h7, h8, h3]
    split
    · rename_i hlt
      have hb := putAll_len (l.take i)
      have hb2 := (l[i]).put_len
      have hll : (l.take i).length ≤ i := by simp; omega
      have hput := fun h => param_Put (C := C) (h := h) l[i]
      rw [Pm.cells] at hput
      simp (dsimp := false) [h3, h6, h7, h8, hia i hlt, hrd i hlt _ Ext.app, Pm.cells, splice, hput, wrap_succ hlt (by omega)]
      exact ⟨by omega, _, by omega, i + 1, rfl, by omega, by simp, by rw [putAll_take hlt]⟩
    · obtain rfl : i = l.length := by omega
      simp
  · exact ⟨0, [], by simp (dsimp := false) [putAll]⟩
end
end Go.Proofs.YtklbbjfbcibghaaGreat
end
section
/-! A number's bytes, as the document puts them. -/
namespace Go.Proofs.YtklbbjfbcibghaaGreat
open Go.RowKit
def putB : Nat → Nat → List UInt8
  | _, 0 => []
  | n, k + 1 => putB (n / 256) k ++ [UInt8.ofNat (n % 256)]
theorem putB_len : ∀ k n, (putB n k).length = k
  | 0, _ => rfl
  | k + 1, n => by simp (dsimp := false) [putB, putB_len k]
theorem bcell {W w1 : World} (hb : Below W.heap.size W w1) : (∀ b o, b < W.heap.size → w1.cell? ⟨b, o, none⟩ = W.cell? ⟨b, o, none⟩) ∧ (∀ b o, b < W.heap.size → w1.frozen? ⟨b, o, none⟩ = W.frozen? ⟨b, o, none⟩) :=
  ⟨fun b o h => hb.cell (p := ⟨b, o, none⟩) h, fun b o h => hb.frozen (p := ⟨b, o, none⟩) h⟩
theorem conv1 (w : World) (a : Addr) (n : Nat) (hc : w.cell? a = some (.int .u8 (IntKind.u8.wrap ((n : Int).tmod 256)))) : (convert 106 9 (.slice (some a) 1 1)).run Tryz.prog w = .ok (.string ⟨#[UInt8.ofNat (n % 256)]⟩) w := by
  have e : IntKind.u8.wrap ((n : Int).tmod 256) = ((UInt8.ofNat (n % 256)).toNat : Int) := by
    rw [show (n : Int).tmod 256 = ((n % 256 : Nat) : Int) from rfl, IntWalk.u8_in _ (by omega)]
    simp
  rw [e] at hc
  refine run_convert_bytes_back w 106 9 5 a 1 [UInt8.ofNat (n % 256)] Tryz.underlying106 Tryz.underlying5 Tryz.underlying9 ?_
  intro j hj
  obtain rfl : j = 0 := by simpa using hj
  simpa [Addr.add] using hc
theorem fin (l : List UInt8) (b : UInt8) : Ending.returned (.string ((⟨l.toArray⟩ : ByteArray) ++ ⟨#[b]⟩)) = .returned (.string ⟨(l ++ [b]).toArray⟩) := by
  congr 2
def PutPost (n k : Nat) (w : World) (e : Ending) (w' : World) : Prop := e = .returned (.string ⟨(putB n k).toArray⟩) ∧ Below w.heap.size w w'
set_option maxRecDepth 100000 in
set_option maxHeartbeats 1000000 in
theorem put_walk : ∀ (k : Nat), k ≤ 8 → ∀ (n : Nat), n < 18446744073709551616 → ∀ (w : World), Calls Tryz.prog 29 #[.int .u64 (n : Int), .int .i64 (k : Int)] w (PutPost n k w) := by
  intro k
  induction k with
  | zero =>
    intro _ n hn w
    go_enter Tryz.func29, Tryz.ntmps29
    go_wp2
    go_ret
    exact ⟨rfl, Below.refl _ _⟩
  | succ k ih =>
    intro hk n hn w
    have h0 : ¬ ((k : Int) + 1 ≤ 0) := by omega
    go_enter Tryz.func29, Tryz.ntmps29
    go_wp2
    have hq : IntKind.u64.wrap ((n : Int) / 256) = ((n / 256 : Nat) : Int) := by
      rw [IntWalk.u64_in _ (by omega)]
      omega
    have hk' : IntKind.i64.wrap (k : Int) = (k : Int) := IntWalk.i64_in _ (by omega)
    have key : ∀ w : World, Calls Tryz.prog 29 #[.int .u64 (IntKind.u64.wrap ((n : Int) / 256)), .int .i64 (IntKind.i64.wrap (k : Int))] w (PutPost (n / 256) k w) := by
      rw [hq, hk']
      exact fun w => ih (by omega) (n / 256) (by omega) w
    clear hq hk' ih hn
    have hcv := fun w a => conv1 w a n
    have hl := putB_len k (n / 256)
    go_region_with (go_at_call 29; refine (key _).mono ?_; rintro e w' ⟨rfl, hb⟩; obtain ⟨hc, hf⟩ := bcell hb)
    all_goals (first | (exfalso; omega) | skip)
    all_goals (try go_wp2)
    all_goals go_ret
    · refine ⟨fin _ _, ?_⟩
      exact ((Below.refl _ w).drew.trans hb).alloc (Nat.le_trans (by simp) hb.size) _
    · refine ⟨fin _ _, ?_⟩
      exact (((Below.refl _ w).alloc (Nat.le_refl _) _).drew).trans (hb.mono (by simp))
    · refine ⟨fin _ _, ?_⟩
      exact (((Below.refl _ w).alloc (Nat.le_refl _) _).drew).trans (hb.mono (by simp))
end Go.Proofs.YtklbbjfbcibghaaGreat
end
section
/-! Hl: from what a law's function does to its walk. -/
namespace Go.Hl
open Go.RowKit

theorem walk_of {P : Program} {C : CallT} (hmix : P.follows .mixedOrders = true) (hC : CallsOk C P) (hG : ∀ f args h v h', C f args h = some (v, h') → Grows h h') {f : FuncId} {args : List V} {h' : H} (hc : Does P C f args ⟨[], []⟩ = some (.bool true, h')) (w : World) (args' : List Value)
    (hargs : RelVs (fun _ _ => ⟨0, 0, 0, 0, 0⟩) ⟨[], []⟩ args args') : Calls P f args'.toArray w fun e w' => e = .returned (.bool true) ∧ Below w.heap.size w w' := by
  have hrel : Rel (fun _ _ => ⟨0, 0, 0, 0, 0⟩) w.heap.size ⟨[], []⟩ w :=
    ⟨fun b k hk => by simp at hk, fun b b' k k' hk => by simp at hk, Nat.le_refl _, fun b k hk => by simp at hk⟩
  refine ((Does_ok hmix hC hG f args _ _ _ hc).2 _ _ w args' hargs hrel).mono ?_
  rintro e w' ⟨v', ι', rfl, hv, _, _, hb⟩
  simp only [RelV] at hv
  exact ⟨by rw [hv], hb⟩
theorem noneOk {P : Program} : CallsOk (fun _ _ _ => none) P := fun f args h v h' hc => by cases hc
theorem walk_pure {P : Program} (hmix : P.follows .mixedOrders = true) {f : FuncId} {args : List V} {h' : H} (hc : Does P (fun _ _ _ => none) f args ⟨[], []⟩ = some (.bool true, h')) (w : World) (args' : List Value)
    (hargs : RelVs (fun _ _ => ⟨0, 0, 0, 0, 0⟩) ⟨[], []⟩ args args') : Calls P f args'.toArray w fun e w' => e = .returned (.bool true) ∧ Below w.heap.size w w' :=
  walk_of hmix noneOk (fun f args h v h' hc => by cases hc) hc w args' hargs
theorem rel_str {ι : Map} {h : H} (a : ByteArray) : RelV ι h (.str a.data.toList) (.string a) := by simp [RelV]
theorem rel_int {ι : Map} {h : H} (k : IntKind) (n : Int) : RelV ι h (.int k n) (.int k n) := by simp [RelV]
theorem rel_bool {ι : Map} {h : H} (b : Bool) : RelV ι h (.bool b) (.bool b) := by simp [RelV]
theorem rel_nil {ι : Map} {h : H} : RelVs ι h [] [] := by simp [RelVs]
theorem rel_cons {ι : Map} {h : H} {u : V} {v : Value} {l : List V} {m : List Value} (a : RelV ι h u v) (b : RelVs ι h l m) : RelVs ι h (u :: l) (v :: m) := by
  simp only [RelVs]
  exact ⟨a, b⟩
end Go.Hl
end
section
/-! The document's 'Put' as an oracle: what is said of it holds. -/
namespace Go.Hl
open Go.RowKit
theorem Rel.below {ι : Map} {base : Nat} {h : H} {w w' : World} (hr : Rel ι base h w) (hb : Below w.heap.size w w') : Rel ι base h w' :=
  ⟨fun b k hk => by
    have R := hr.blk b k hk
    exact ⟨R.top, R.val, fun g hg => Nat.lt_of_lt_of_le (R.lt g hg) hb.size, R.side, R.chain, R.ends, fun g h1 h2 => by
      obtain ⟨c, e, fz, h3, h4⟩ := R.cells g h1 h2
      exact ⟨c, e, fz, by rw [hb.block _ (R.lt g h2)]; exact h3, h4⟩⟩, hr.disj, Nat.le_trans hr.base hb.size, hr.wf⟩
theorem Does_oracle {P : Program} {C : CallT} {f : FuncId} {fn : Func} {args : List V} {h : H} {r : V × H} (hf : P.funcs[f]? = some fn) (hok : fnOk P fn = false) (hc : C f args h = some r) : Does P C f args h = some r := by
  refine Does_iff.2 ⟨1, ?_⟩
  unfold callF
  rw [hf]
  simp only [hok]
  exact hc
end Go.Hl
namespace Go.Proofs.YtklbbjfbcibghaaGreat
open Go.Hl Go.RowKit
def putC : CallT := fun f args h => match args with
  | [.int .u64 n, .int .i64 k] => if f = 29 ∧ 0 ≤ n ∧ n < 18446744073709551616 ∧ 0 ≤ k ∧ k ≤ 8 then some (.str (putB n.toNat k.toNat), h) else none
  | _ => none
theorem putC_some {f : FuncId} {args : List V} {h h' : H} {v : V} (hc : putC f args h = some (v, h')) : ∃ n k : Nat, f = 29 ∧ args = [.int .u64 (n : Int), .int .i64 (k : Int)] ∧ n < 18446744073709551616 ∧ k ≤ 8 ∧ v = .str (putB n k) ∧ h' = h := by
  unfold putC at hc
  split at hc
  · rename_i n k
    split at hc
    · rename_i hh
      obtain ⟨h1, h2, h3, h4, h5⟩ := hh
      injection hc with hc
      injection hc with h6 h7
      refine ⟨n.toNat, k.toNat, h1, ?_, ?_, ?_, h6.symm, h7.symm⟩
      · rw [Int.toNat_of_nonneg h2, Int.toNat_of_nonneg h4]
      · exact (Int.toNat_lt h2).2 h3
      · exact Int.toNat_le.2 h5
    · cases hc
  · cases hc
theorem putC_ok : CallsOk putC Tryz.prog := by
  intro f args h v h' hc
  obtain ⟨n, k, rfl, rfl, hn, hk, rfl, rfl⟩ := putC_some hc
  refine ⟨⟨_, Tryz.func29, rfl, rfl⟩, ?_⟩
  intro ι base w args' ha hr
  have hargs : args' = [.int .u64 (n : Int), .int .i64 (k : Int)] := by
    match args', ha with
    | [a, b], ha =>
      simp only [RelVs, RelV, and_true] at ha
      rw [ha.1, ha.2]
  subst hargs
  refine (put_walk k hk n hn w).mono ?_
  rintro e w' ⟨rfl, hb⟩
  exact ⟨_, ι, rfl, by simp (dsimp := false) [RelV], hr.below hb, Agree.refl _ _, hb.mono hr.base⟩
theorem putC_grows : ∀ f args h v h', putC f args h = some (v, h') → Grows h h' := fun f args h v h' hc => by
  obtain ⟨n, k, -, -, -, -, -, rfl⟩ := putC_some hc
  exact Grows.refl _
theorem rdoc_Put {n k : Nat} (hn : n < 18446744073709551616) (hk : k ≤ 8) (h : H) : Does Tryz.prog putC 29 [.int .u64 (n : Int), .int .i64 (k : Int)] h = some (.str (putB n k), h) := by
  refine Does_oracle Tryz.func29 (by kernel_rfl) ?_
  unfold putC
  simp only
  have h1 : (n : Int) < 18446744073709551616 := Int.ofNat_lt.2 hn
  clear hn
  rw [if_pos ⟨trivial, Int.natCast_nonneg n, h1, Int.natCast_nonneg k, Int.ofNat_le.2 hk⟩]
  rfl
end Go.Proofs.YtklbbjfbcibghaaGreat
end
section
namespace Go.Proofs.YtklbbjfbcibghaaGreat
open Go.Hl
set_option maxHeartbeats 1000000
variable {C : CallT}
theorem ofNat_b8 {n : Nat} {x : Int} (h : (n : Int) % 256 = x % 256) : UInt8.ofNat (n % 256) = b8 x := by
  unfold b8
  congr 1
  omega
theorem wrap_u64e (x : Int) : IntKind.u64.wrap x = x % 18446744073709551616 := by simp (dsimp := false) [IntKind.wrap, IntKind.bits, IntKind.signed]
theorem u64_lt (x : Int) : (IntKind.u64.wrap x).toNat < 18446744073709551616 := by
  rw [wrap_u64e]
  have := Int.emod_lt_of_pos x (b := 18446744073709551616) (by decide)
  omega
theorem u64_nn (x : Int) : 0 ≤ IntKind.u64.wrap x := by
  rw [wrap_u64e]
  exact Int.emod_nonneg x (by decide)
theorem putB_1 (x : Int) : putB (IntKind.u64.wrap x).toNat 1 = [b8 x] := by
  rw [wrap_u64e]
  simp only [putB, List.nil_append]
  rw [ofNat_b8 (x := x) (by omega)]
theorem putB_2 (x : Int) : putB (IntKind.u64.wrap x).toNat 2 = be2 x := by
  rw [wrap_u64e]
  simp only [putB, List.nil_append, List.cons_append, be2]
  rw [ofNat_b8 (x := x / 256) (by omega), ofNat_b8 (x := x) (by omega)]
theorem putB_4 (x : Int) : putB (IntKind.u64.wrap x).toNat 4 = be4 x := by
  rw [wrap_u64e]
  simp only [putB, List.nil_append, List.cons_append, be4]
  rw [ofNat_b8 (x := x / 16777216) (by omega), ofNat_b8 (x := x / 65536) (by omega), ofNat_b8 (x := x / 256) (by omega), ofNat_b8 (x := x) (by omega)]
section
variable {h : H}
theorem rdoc_PutI (x : Int) {k : Nat} (hk : k ≤ 8) (h : H) : Does Tryz.prog putC 29 [.int .u64 (IntKind.u64.wrap x), .int .i64 (k : Int)] h = some (.str (putB (IntKind.u64.wrap x).toNat k), h) := by
  have := rdoc_Put (u64_lt x) hk h
  rwa [Int.toNat_of_nonneg (u64_nn x)] at this
theorem rdoc_Put1 (x : Int) (h : H) : Does Tryz.prog putC 29 [.int .u64 (IntKind.u64.wrap x), .int .i64 1] h = some (.str [b8 x], h) := by
  rw [← putB_1]
  exact rdoc_PutI x (k := 1) (by decide) h
theorem rdoc_Put2 (x : Int) (h : H) : Does Tryz.prog putC 29 [.int .u64 (IntKind.u64.wrap x), .int .i64 2] h = some (.str (be2 x), h) := by
  rw [← putB_2]
  exact rdoc_PutI x (k := 2) (by decide) h
theorem rdoc_Put4 (x : Int) (h : H) : Does Tryz.prog putC 29 [.int .u64 (IntKind.u64.wrap x), .int .i64 4] h = some (.str (be4 x), h) := by
  rw [← putB_4]
  exact rdoc_PutI x (k := 4) (by decide) h
theorem rdoc_num1 (x : Int) (h : H) : Does Tryz.prog putC 65 [.int .i64 x, .int .i64 1] h = some (.str [b8 x], h) := by
  refine Does_eq (n := 9) (rs := [.tmp 4]) Tryz.func65 (by kernel_rfl) rfl rfl rfl (by simp) fun σ hg => ?_
  simp (dsimp := false) [hg, rdoc_Put1]
theorem rdoc_num2 (x : Int) (h : H) : Does Tryz.prog putC 65 [.int .i64 x, .int .i64 2] h = some (.str (be2 x), h) := by
  refine Does_eq (n := 9) (rs := [.tmp 4]) Tryz.func65 (by kernel_rfl) rfl rfl rfl (by simp) fun σ hg => ?_
  simp (dsimp := false) [hg, rdoc_Put2]
theorem rdoc_num4 (x : Int) (h : H) : Does Tryz.prog putC 65 [.int .i64 x, .int .i64 4] h = some (.str (be4 x), h) := by
  refine Does_eq (n := 9) (rs := [.tmp 4]) Tryz.func65 (by kernel_rfl) rfl rfl rfl (by simp) fun σ hg => ?_
  simp (dsimp := false) [hg, rdoc_Put4]
theorem rdoc4_May (p : Pm) : Does Tryz.prog C 93 [.agg p.cells] h = some (.bool p.may, h) := by
  unfold Pm.cells Pm.may
  have e1 : (p.typ ≤ 65535) = (p.typ < 65536) := propext (by omega)
  have e2 : ((p.val.length : Int) ≤ 1000) = (p.val.length ≤ 1000) := propext (by omega)
  refine Does_eq (n := 17) (rs := [.tmp 2]) Tryz.func93 (by kernel_rfl) rfl rfl rfl (by simp) fun σ hg => ?_
  by_cases c1 : 0 ≤ p.typ <;> by_cases c2 : p.typ < 65536 <;> by_cases c3 : p.val.length ≤ 1000 <;> simp (dsimp := false) [hg, c1, c2, c3, e1, e2]
theorem rdoc4_Put (p : Pm) : Does Tryz.prog putC 96 [.agg p.cells] h = some (.str p.put, h) := by
  have hM := fun h => rdoc4_May (C := putC) (h := h) p
  by_cases hm : p.may = true
  · have hl : p.val.length ≤ 1000 := by
      unfold Pm.may at hm
      simp only [Bool.and_eq_true, decide_eq_true_eq] at hm
      exact hm.2
    have hw : IntKind.i64.wrap ((p.val.length : Int) + 4) = p.val.length + 4 := wrap_i64 (by omega) (by omega)
    have hF : ∀ h, Does Tryz.prog putC 64 [.str (be2 p.typ ++ (be2 (p.val.length + 4) ++ p.val))] h = some (.str (filled (be2 p.typ ++ (be2 (p.val.length + 4) ++ p.val))), h) := fun h => rdoc_Filled _ (by simp (dsimp := false) [be2_len]; omega)
    have g1 : 2 + p.val.length ≤ 9223372036854775807 := by omega
    have g2 : 2 + (2 + p.val.length) ≤ 9223372036854775807 := by omega
    have g3 : 4 + p.val.length ≤ 9223372036854775807 := by omega
    have e : p.put = filled (be2 p.typ ++ (be2 (p.val.length + 4) ++ p.val)) := by
      unfold Pm.put
      rw [if_pos hm, List.append_assoc]
    rw [e]
    unfold Pm.cells at *
    refine Does_eq (n := 21) (rs := [.tmp 2]) Tryz.func96 (by kernel_rfl) rfl rfl rfl (by simp) fun σ hg => ?_
    simp (dsimp := false) [hg, hM, hm]
    refine (W_anyF (F := [(5, 3), (12, 3), (12, 9)]) (by kernel_rfl)).2 ?_
    simp (dsimp := false) [rdoc_Put2, hw, be2_len, g3, hF]
  · have e : p.put = [] := by
      unfold Pm.put
      rw [if_neg hm]
    simp only [Bool.not_eq_true] at hm
    rw [e]
    unfold Pm.cells at *
    refine Does_eq (n := 21) (rs := [.tmp 2]) Tryz.func96 (by kernel_rfl) rfl rfl rfl (by simp) fun σ hg => ?_
    simp (dsimp := false) [hg, hM, hm]
theorem rdoc4_PutAll {l : List Pm} {v : V} (hs : Sl h 2 l.length (l.flatMap Pm.cells) v) (hl : l.length ≤ 1000000) : Does Tryz.prog putC 95 [v] h = some (.str (putAll l), h) := by
  have hlen := hs.len Tryz.underlying62
  obtain ⟨p, hia, hrd, -⟩ := (hs.blks (h' := ⟨h.blks, []⟩) rfl).at Pm.cells_len
  refine Does_eq (n := 19) (rs := [.tmp 2]) Tryz.func95 (by kernel_rfl) rfl rfl rfl (by simp) fun σ hg => ?_
  simp
  refine W_loopM (fun k σ h' => ∃ i : Nat, ∃ m, k = l.length - i ∧ i ≤ l.length ∧ h' = ⟨h.blks ++ m, []⟩ ∧ σ 0 = v ∧ σ 4 = .int .i64 i ∧ σ 3 = .str (putAll (l.take i))) ?_ l.length _ _ ?_
  · rintro _ σ _ ⟨i, m, rfl, hi, rfl, h0, h4, h3⟩
    simp (dsimp := false) [h0, h4, h3, hlen]
    split
    · rename_i hlt
      have hb := putAll_len (l.take i)
      have hb2 := (l[i]).put_len
      have hll : (l.take i).length ≤ i := by simp; omega
      have hput := fun h => rdoc4_Put (h := h) l[i]
      rw [Pm.cells] at hput
      simp (dsimp := false) [h0, h3, h4, hia i hlt, hrd i hlt _ Ext.app, Pm.cells, hput, wrap_succ hlt (by omega)]
      exact ⟨by omega, _, by omega, i + 1, rfl, by omega, by simp, by rw [putAll_take hlt]⟩
    · obtain rfl : i = l.length := by omega
      simp
  · exact ⟨0, [], by simp (dsimp := false) [putAll, hg]⟩
end
end Go.Proofs.YtklbbjfbcibghaaGreat
end
section
namespace Go.Proofs.YtklbbjfbcibghaaGreat
open Go.Hl
set_option maxHeartbeats 1000000
variable {C : CallT}
theorem RS_eta (r : RS) : RS.mk r.s r.e = r := rfl
section
variable {h : H} {r : RS}
theorem qTk_le (n : Int) (r : RS) : (qTk n r).s.length ≤ r.s.length := by
  unfold qTk
  split
  · exact Nat.le_refl _
  · split
    · unfold qFail
      split <;> simp
    · simp
theorem qFail_le (x : Int) (r : RS) : (qFail x r).s.length ≤ r.s.length := by
  unfold qFail
  split <;> simp
theorem qNum2_lt (r : RS) : qNum 2 r < 65536 := by
  refine Nat.lt_of_lt_of_le (numB_lt _) ?_
  exact Nat.pow_le_pow_right (n := 256) (by decide) (qGot_len 2 r)
theorem qNum1_lt (r : RS) : qNum 1 r < 256 := by
  refine Nat.lt_of_lt_of_le (numB_lt _) ?_
  exact Nat.pow_le_pow_right (n := 256) (by decide) (qGot_len 1 r)
theorem qNum4_lt (r : RS) : qNum 4 r < 4294967296 := by
  refine Nat.lt_of_lt_of_le (numB_lt _) ?_
  exact Nat.pow_le_pow_right (n := 256) (by decide) (qGot_len 4 r)
attribute [local irreducible] qTk qGot qNum qFail qWhole
theorem rdoc4_Take (hr : r.s.length ≤ 4000000000000000000) : Does Tryz.prog C 115 [.agg (rc r)] h = some (.tup [.agg (rc (qParam r).1), .agg (qParam r).2.cells], h) := by
  have hN : ∀ (s : Bs) (e : Int) h, Does Tryz.prog C 46 [.agg [.str s, .int .i64 e], .int .i64 2] h = some (.tup [.agg (rc (qTk 2 ⟨s, e⟩)), .int .u64 (qNum 2 ⟨s, e⟩ : Nat)], h) := fun s e h => rdoc_Num (r := ⟨s, e⟩) (by decide)
  have hT : ∀ (s : Bs) (e n : Int) h, Does Tryz.prog C 78 [.agg [.str s, .int .i64 e], .int .i64 n] h = some (.tup [.agg (rc (qTk n ⟨s, e⟩)), .str (qGot n ⟨s, e⟩)], h) := fun s e n h => rdoc_Take (r := ⟨s, e⟩) n
  have hF : ∀ (s : Bs) (e : Int) h, Does Tryz.prog C 79 [.agg [.str s, .int .i64 e], .int .i64 3] h = some (.agg (rc (qFail 3 ⟨s, e⟩)), h) := fun s e h => rdoc_Fail (h := h) (r := ⟨s, e⟩) 3
  have hQ : qParam r = qParam r := rfl
  conv at hQ => rhs; unfold qParam
  simp only at hQ
  have l1 := qTk_le 2 r
  have l2 := qTk_le 2 (qTk 2 r)
  have n2 := qNum2_lt (qTk 2 r)
  have n1 := qNum2_lt r
  generalize hr2 : qTk 2 (qTk 2 r) = r2 at *
  obtain ⟨n, hn⟩ : ∃ n, qNum 2 (qTk 2 r) = n := ⟨_, rfl⟩
  rw [hn] at hQ n2
  have hwn : IntKind.i64.wrap (n : Int) = n := wrap_i64 (by omega) (by omega)
  have hw4 : IntKind.i64.wrap ((n : Int) - 4) = (n : Int) - 4 := wrap_i64 (by omega) (by omega)
  have hwt : IntKind.i64.wrap ((qNum 2 r : Nat) : Int) = (qNum 2 r : Nat) := wrap_i64 (by omega) (by omega)
  have lF := qFail_le 3 r2
  have hW : ∀ q : RS, q.s.length ≤ r.s.length → ∀ h, Does Tryz.prog C 80 [.agg [.str q.s, .int .i64 q.e], .int .i64 (n : Int)] h = some (.agg (rc (qWhole n q)), h) := fun q hq h => rdoc_Whole (r := q) (by omega)
  unfold rc at *
  refine Does_eq (n := 58) (rs := [.cell 2 100, .cell 3 64]) Tryz.func115 (by kernel_rfl) rfl rfl rfl (by simp) fun σ hg => ?_
  by_cases c1 : r2.e = 0
  · have c1' := eq_true c1
    by_cases c0 : (n : Int) < 4 ∨ 1004 < (n : Int)
    · rw [if_pos (show r2.e = 0 ∧ ((n : Int) < 4 ∨ 1004 < (n : Int)) from ⟨c1, c0⟩)] at hQ
      have c0' := eq_true c0
      have hW' := hW (qTk (n - 4) (qFail 3 r2)) (Nat.le_trans (qTk_le _ _) (by omega))
      by_cases c2 : (qTk (n - 4) (qFail 3 r2)).e = 0
      · rw [if_neg (fun h => h c2)] at hQ
        have c2' := eq_true c2
        by_cases c3 : (qWhole n (qTk (n - 4) (qFail 3 r2))).e = 0
        · rw [if_neg (fun h => h c3)] at hQ
          have c3' := eq_true c3
          rw [hQ]
          simp (dsimp := false) [-run_groupK, run_join, hg, splice, hN, hr2, hn, c1', c0', hF, hwn, hw4, hT, c2', hW', c3', hwt, Pm.cells, RS_eta]
        · rw [if_pos c3] at hQ
          have c3' := eq_false c3
          rw [hQ]
          simp (dsimp := false) [-run_groupK, run_join, hg, splice, hN, hr2, hn, c1', c0', hF, hwn, hw4, hT, c2', hW', c3', Pm.cells, RS_eta]
      · rw [if_pos c2] at hQ
        have c2' := eq_false c2
        rw [hQ]
        simp (dsimp := false) [-run_groupK, run_join, hg, splice, hN, hr2, hn, c1', c0', hF, hwn, hw4, hT, c2', Pm.cells, RS_eta]
    · rw [if_neg (show ¬ (r2.e = 0 ∧ ((n : Int) < 4 ∨ 1004 < (n : Int))) from fun h => c0 h.2)] at hQ
      have c0' := eq_false c0
      have hW' := hW (qTk (n - 4) r2) (Nat.le_trans (qTk_le _ _) (by omega))
      by_cases c2 : (qTk (n - 4) r2).e = 0
      · rw [if_neg (fun h => h c2)] at hQ
        have c2' := eq_true c2
        by_cases c3 : (qWhole n (qTk (n - 4) r2)).e = 0
        · rw [if_neg (fun h => h c3)] at hQ
          have c3' := eq_true c3
          rw [hQ]
          simp (dsimp := false) [-run_groupK, run_join, hg, splice, hN, hr2, hn, c1', c0', hwn, hw4, hT, c2', hW', c3', hwt, Pm.cells, RS_eta]
        · rw [if_pos c3] at hQ
          have c3' := eq_false c3
          rw [hQ]
          simp (dsimp := false) [-run_groupK, run_join, hg, splice, hN, hr2, hn, c1', c0', hwn, hw4, hT, c2', hW', c3', Pm.cells, RS_eta]
      · rw [if_pos c2] at hQ
        have c2' := eq_false c2
        rw [hQ]
        simp (dsimp := false) [-run_groupK, run_join, hg, splice, hN, hr2, hn, c1', c0', hwn, hw4, hT, c2', Pm.cells, RS_eta]
  · rw [if_neg (show ¬ (r2.e = 0 ∧ ((n : Int) < 4 ∨ 1004 < (n : Int))) from fun h => c1 h.1)] at hQ
    have c1' := eq_false c1
    have hW' := hW (qTk (n - 4) r2) (Nat.le_trans (qTk_le _ _) (by omega))
    by_cases c2 : (qTk (n - 4) r2).e = 0
    · rw [if_neg (fun h => h c2)] at hQ
      have c2' := eq_true c2
      by_cases c3 : (qWhole n (qTk (n - 4) r2)).e = 0
      · rw [if_neg (fun h => h c3)] at hQ
        have c3' := eq_true c3
        rw [hQ]
        simp (dsimp := false) [-run_groupK, run_join, hg, splice, hN, hr2, hn, c1', hwn, hw4, hT, c2', hW', c3', hwt, Pm.cells, RS_eta]
      · rw [if_pos c3] at hQ
        have c3' := eq_false c3
        rw [hQ]
        simp (dsimp := false) [-run_groupK, run_join, hg, splice, hN, hr2, hn, c1', hwn, hw4, hT, c2', hW', c3', Pm.cells, RS_eta]
    · rw [if_pos c2] at hQ
      have c2' := eq_false c2
      rw [hQ]
      simp (dsimp := false) [-run_groupK, run_join, hg, splice, hN, hr2, hn, c1', hwn, hw4, hT, c2', Pm.cells, RS_eta]
end
end Go.Proofs.YtklbbjfbcibghaaGreat
end
section
namespace Go.Proofs.YtklbbjfbcibghaaGreat
open Go.Hl
set_option maxHeartbeats 1000000
variable {C : CallT}
section
variable {h : H} {l : List Blk} {es : List (Nat × Nat)} {b : Nat} {r : RS}
theorem param_Take (hr : l[b]? = some r.blk) : Does Tryz.prog C 122 [.ptr b 0 0 2] ⟨l, es⟩ = some (.agg (tkParam r).1.cells, ⟨l.set b (tkParam r).2.blk, es⟩) := by
  have hlt := lt_of_some hr
  obtain ⟨l', hl', rfl⟩ : ∃ l', b < l'.length ∧ l = l'.set b r.blk := ⟨l, hlt, (set_self hr).symm⟩
  have hn : (r.tk 2).num 2 < 4294967296 := numB_4 (Nat.le_trans (tkS_len _ _ _) (by decide))
  have hw : IntKind.i64.wrap (((r.tk 2).num 2 : Int) - 4) = ((r.tk 2).num 2 : Int) - 4 := wrap_i64 (by omega) (by omega)
  simp only [List.set_set]
  have hT : tkParam r = tkParam r := rfl
  conv at hT => rhs; unfold tkParam
  simp only at hT
  refine Does_eq (n := 47) (rs := [.cell 2 47]) Tryz.func122 (by kernel_rfl) rfl rfl rfl (by simp) fun σ hg => ?_
  simp (dsimp := false) [hg, hl', hw, splice]
  generalize hr2 : (r.tk 2).tk 2 = r2 at *
  generalize hnn : ((r.tk 2).num 2 : Int) - 4 = n at *
  have h4 : (4 ≤ ((r.tk 2).num 2 : Int)) ↔ ¬ n < 0 := by omega
  rw [hT]
  clear hr2 hnn hr hlt hn hT
  simp only [h4]
  clear h4 hg hw
  by_cases c1 : r2.e = 0 <;> by_cases c2 : n < 0 <;> by_cases c3 : 1000 < n <;> simp only [c1, c2, c3, ne_eq, not_true_eq_false, not_false_eq_true, and_true, and_false, or_true, or_self, or_false, if_true, if_false]
  all_goals (generalize (RS.tk n _) = r4; by_cases c4 : r4.e = 0 <;> by_cases c5 : r4.left < -n % 4 <;> simp only [c4, c5, not_true_eq_false, not_false_eq_true, if_true, if_false, Pm.cells])
  all_goals (first | (split <;> rename_i h6 <;> simp (dsimp := false); done) | simp)
end
@[simp] theorem param_Take_A {l m : List Blk} {es : List (Nat × Nat)} {b : Nat} {r : RS}  (hlt : b < l.length) : Does Tryz.prog C 122 [.ptr b 0 0 2] ⟨l.set b r.blk ++ m, es⟩ = some (.agg (tkParam r).1.cells, ⟨l.set b ((tkParam r).2).blk ++ m, es⟩) := by
  rw [param_Take (r := r) (by rw [get_app (by simpa using hlt), get_set hlt]), set_app (by simpa using hlt), List.set_set]
@[simp] theorem param_Take_A0 {l : List Blk} {es : List (Nat × Nat)} {b : Nat} {r : RS}  (hlt : b < l.length) : Does Tryz.prog C 122 [.ptr b 0 0 2] ⟨l.set b r.blk, es⟩ = some (.agg (tkParam r).1.cells, ⟨l.set b ((tkParam r).2).blk, es⟩) := by
  rw [param_Take (r := r) (by rw [get_set hlt]), List.set_set]
@[simp] theorem param_Take_L0 {l m : List Blk} {es : List (Nat × Nat)} {n : Nat} {r : RS}  (hn : n = l.length) : Does Tryz.prog C 122 [.ptr n 0 0 2] ⟨l ++ r.blk :: m, es⟩ = some (.agg (tkParam r).1.cells, ⟨l ++ ((tkParam r).2).blk :: m, es⟩) := by
  subst hn
  rw [param_Take (r := r) (by simp)]
  simp
@[simp] theorem param_Take_L1 {l m : List Blk} {y0 : Blk} {es : List (Nat × Nat)} {n : Nat} {r : RS}  (hn : n = l.length + 1) : Does Tryz.prog C 122 [.ptr n 0 0 2] ⟨l ++ y0 :: r.blk :: m, es⟩ = some (.agg (tkParam r).1.cells, ⟨l ++ y0 :: ((tkParam r).2).blk :: m, es⟩) := by
  subst hn
  rw [param_Take (r := r) (by simp)]
  simp
@[simp] theorem param_Take_L2 {l m : List Blk} {y0 y1 : Blk} {es : List (Nat × Nat)} {n : Nat} {r : RS}  (hn : n = l.length + 2) : Does Tryz.prog C 122 [.ptr n 0 0 2] ⟨l ++ y0 :: y1 :: r.blk :: m, es⟩ = some (.agg (tkParam r).1.cells, ⟨l ++ y0 :: y1 :: ((tkParam r).2).blk :: m, es⟩) := by
  subst hn
  rw [param_Take (r := r) (by simp)]
  simp
@[simp] theorem param_Take_L3 {l m : List Blk} {y0 y1 y2 : Blk} {es : List (Nat × Nat)} {n : Nat} {r : RS}  (hn : n = l.length + 3) : Does Tryz.prog C 122 [.ptr n 0 0 2] ⟨l ++ y0 :: y1 :: y2 :: r.blk :: m, es⟩ = some (.agg (tkParam r).1.cells, ⟨l ++ y0 :: y1 :: y2 :: ((tkParam r).2).blk :: m, es⟩) := by
  subst hn
  rw [param_Take (r := r) (by simp)]
  simp
end Go.Proofs.YtklbbjfbcibghaaGreat
end
section
namespace Go.Proofs.YtklbbjfbcibghaaGreat
open Go.Hl
set_option maxHeartbeats 1000000
variable {C : CallT}
/-- What 'param.All' hands back: a list and the error. -/
def AllPost (h : H) (s : Bs) (x : V × H) : Prop := ∃ v, x.1 = .tup [v, .int .i64 (allP s).2] ∧ Ext h x.2 ∧ Sl x.2 2 (allP s).1.length ((allP s).1.flatMap Pm.cells) v ∧ ((allP s).2 ≠ 0 → v = .nils) ∧ Hi h.blks.length v
theorem param_All {h : H} (s : Bs) : Ok (Does Tryz.prog C 135 [.str s] h) (AllPost h s) := by
  have hA : allP s = allP s := rfl
  conv at hA => rhs; unfold allP
  generalize hL : allLoop 17 ⟨s, 0⟩ [] = L at hA
  refine Does_wp (n := 28) (rs := [.tmp 2, .tmp 3]) Tryz.func135 (by kernel_rfl) rfl rfl rfl (by simp) fun σ hg => ?_
  simp (dsimp := false) [hg]
  refine W_loopM (fun k σ h' => ∃ r out v m, k = 17 - out.length ∧ out.length ≤ 16 ∧ allLoop (17 - out.length) r out = L ∧ h' = ⟨h.blks ++ r.blk :: m, []⟩ ∧ σ 4 = .ptr h.blks.length 0 0 2 ∧ σ 5 = v ∧
      Sl ⟨h.blks ++ r.blk :: m, []⟩ 2 out.length (out.flatMap Pm.cells) v ∧ OwnF (h.blks.length + 1) ⟨h.blks ++ r.blk :: m, []⟩ 2 out.length v) ?_ 17 _ _ ?_
  · rintro _ σ _ ⟨r, out, v, m, rfl, hol, hloop, rfl, h4, h5, hs, ho⟩
    have hlen := hs.len Tryz.underlying27
    have hloop' := hloop
    rw [show 17 - out.length = (16 - out.length) + 1 by omega] at hloop'
    simp only [allLoop] at hloop'
    simp (dsimp := false) [h4, h5]
    by_cases c1 : 0 < r.left
    · simp only [c1, if_true] at hloop'
      by_cases c2 : out.length = 16
      · simp only [c2, if_true] at hloop'
        simp (dsimp := false) [h4, h5, c1, c2, hlen]
        have he : (r.fail 5).e ≠ 0 := by
          unfold RS.left leftN at c1
          split at c1
          · rename_i h0
            simp (dsimp := false) [RS.fail, failE, h0]
          · omega
        rw [if_neg he]
        subst hloop'
        simp only [ne_eq, he, not_false_eq_true, if_true] at hA
        exact ⟨.nils, by rw [hA], Ext.refl h, by rw [hA]; exact Sl.nil h 2, fun _ => rfl, Hi.nils⟩
      · simp only [c2, if_false] at hloop'
        have c2' : ¬ ((out.length : Int) = 16) := by omega
        simp (dsimp := false) [h4, h5, c1, c2', hlen, Pm.cells, splice]
        have hs' := SlOwn_swap (p := h.blks ++ [r.blk]) (p' := h.blks ++ [(tkParam r).2.blk]) (m := m) (es' := []) (by simp) (by simpa using hs) (by simpa using ho)
        obtain ⟨v', m', es', ha, ha1, ha2, -, -, ha6, -⟩ := append_new (eb := 24) (ys := (tkParam r).1.cells) hs'.1 hs'.2 rfl (by decide) (by simp (dsimp := false) [Pm.cells]) (by omega) (by omega) (h.blks.length + (m.length + 1)) (by simp; omega)
        have hes := ha6 (fun b => by simp (dsimp := false) [Pm.cells])
        subst hes
        simp (dsimp := false) [Pm.cells] at ha ha1 ha2
        rw [ha]
        simp
        refine ⟨16 - out.length, by omega, (tkParam r).2, out ++ [(tkParam r).1], by simp, by simp; omega, ?_, v', m', ⟨rfl, rfl⟩, h4, rfl, ?_, ?_⟩
        · rw [show 17 - (out ++ [(tkParam r).1]).length = 16 - out.length by rw [List.length_append]; simp only [List.length_singleton]; omega]
          exact hloop'
        · simpa [Pm.cells] using ha1
        · simpa using ha2
    · simp only [c1, if_false] at hloop'
      subst hloop'
      simp (dsimp := false) [c1]
      split
      · rename_i he
        simp only [ne_eq, he, not_true_eq_false, if_false] at hA
        refine ⟨v, by rw [hA], leave_ext (by simp), ?_, by rw [hA]; exact fun h => absurd rfl h, ho.hi.le (Nat.le_succ _)⟩
        rw [hA]
        exact leave_sl hs (fun hu => by simpa using hu)
      · rename_i he
        simp only [ne_eq, he, not_false_eq_true, if_true] at hA
        exact ⟨.nils, by rw [hA], Ext.refl h, by rw [hA]; exact Sl.nil h 2, fun _ => rfl, Hi.nils⟩
  · exact ⟨⟨s, 0⟩, [], .nils, [], by simp (dsimp := false) [hL, Sl.nil, OwnF.nil]⟩
end Go.Proofs.YtklbbjfbcibghaaGreat
end
section
namespace Go.Hl
/-- One element more, in a block that is known. -/
theorem append_at {l : List Blk} {es : List (Nat × Nat)} {cs ys : List V} {k esz eb b j : Nat} (hb : l[b]? = some ⟨cs, k, 0, false⟩) (hj : l[j]? = some ⟨ys, 0, 0, false⟩) (hc : cs.length = k * esz) (hy : ys.length = esz) (hz : 0 < esz) (hok : ys.all V.cellOk = true)
    (h1 : (k + 1) * eb ≤ 70368744177664) (h2 : k + 1 ≤ 70368744177664) :
    appendV esz eb ⟨l, es⟩ (.sl b 0 k k esz false) (.sl j 0 1 0 esz false) = some (.sl b 0 (k + 1) (k + 1) esz false, ⟨l.set b ⟨cs ++ ys, k + 1, 0, false⟩, es ++ escs b ys⟩) := by
  have hr : H.read ⟨l, es⟩ j 0 0 esz = some ys := by
    simp only [H.read, hj]
    rw [if_pos ⟨Nat.le_refl _, Nat.le_refl _⟩, List.drop_zero, List.take_of_length_le (Nat.le_of_eq hy)]
  have e1 : 1 * esz = esz := Nat.one_mul _
  have e2 : 0 + k * esz = cs.length := by omega
  simp only [appendV, sourceOf, if_true, e1, hr, Option.map_some, lenV_sl, appendTo, hb, e2, H.grow]
  rw [if_neg (by decide), if_pos ⟨hz, h1, h2⟩]
  simp (dsimp := false) [hok]
end Go.Hl
namespace Go.Proofs.YtklbbjfbcibghaaGreat
open Go.Hl
set_option maxHeartbeats 2000000
variable {C : CallT}
def AllPostQ (h : H) (s : Bs) (x : V × H) : Prop := ∃ v, x.1 = .tup [v, .int .i64 (qAll s).2] ∧ Ext h x.2 ∧ Sl x.2 2 (qAll s).1.length ((qAll s).1.flatMap Pm.cells) v ∧ Hi h.blks.length v
theorem qFill_le (n : Int) (r : RS) : (qFill n r).s.length ≤ r.s.length := by
  unfold qFill
  split
  · exact qTk_le _ _
  · exact Nat.le_trans (qFail_le _ _) (qTk_le _ _)
theorem qWhole_le (n : Int) (r : RS) : (qWhole n r).s.length ≤ r.s.length := by
  unfold qWhole
  split
  · exact qFail_le _ _
  · exact qFill_le _ _
theorem qParam_le (r : RS) : (qParam r).1.s.length ≤ r.s.length := by
  have h2 : (qTk 2 (qTk 2 r)).s.length ≤ r.s.length := Nat.le_trans (qTk_le 2 _) (qTk_le 2 r)
  unfold qParam
  simp only
  generalize ((qNum 2 (qTk 2 r) : Nat) : Int) = n
  generalize qTk 2 (qTk 2 r) = r2 at *
  have h3 : (if r2.e = 0 ∧ (n < 4 ∨ 1004 < n) then qFail 3 r2 else r2).s.length ≤ r.s.length := by
    split
    · exact Nat.le_trans (qFail_le _ _) h2
    · exact h2
  generalize (if r2.e = 0 ∧ (n < 4 ∨ 1004 < n) then qFail 3 r2 else r2) = r3 at *
  have h4 := Nat.le_trans (qTk_le (n - 4) r3) h3
  have h5 := Nat.le_trans (qWhole_le n (qTk (n - 4) r3)) h4
  repeat' split
  all_goals (first | exact h4 | exact h5)
attribute [local irreducible] qParam
theorem rdoc4_All {h : H} (s : Bs) (hs : s.length ≤ 4000000000000000000) : Ok (Does Tryz.prog C 133 [.str s] h) (AllPostQ h s) := by
  have hA : qAll s = qAll s := rfl
  conv at hA => rhs; unfold qAll
  generalize hL : qLoop 17 ⟨s, 0⟩ [] = L at hA
  refine Does_wp (n := 39) (rs := [.tmp 2, .tmp 3]) Tryz.func133 (by kernel_rfl) rfl rfl rfl (by simp) fun σ hg => ?_
  simp (dsimp := false) [hg, splice]
  refine W_loopM (fun k σ h' => ∃ r out m, k = 17 - out.length ∧ out.length ≤ 16 ∧ r.s.length ≤ s.length ∧ qLoop (17 - out.length) r out = L ∧ h' = ⟨h.blks ++ (⟨out.flatMap Pm.cells, out.length, 0, false⟩ :: ⟨rc r, 0, 0, false⟩ :: m), []⟩ ∧ σ 4 = .ptr (h.blks.length + 1) 0 0 2 ∧ σ 5 = .sl h.blks.length 0 out.length out.length 2 false) ?_ 17 _ _ ?_
  · rintro _ σ _ ⟨r, out, m, rfl, hol, hrl, hloop, rfl, h4, h5⟩
    have hT : ∀ h, Does Tryz.prog C 115 [.agg [.str r.s, .int .i64 r.e]] h = some (.tup [.agg (rc (qParam r).1), .agg (qParam r).2.cells], h) := fun h => rdoc4_Take (r := r) (by omega)
    rw [show 17 - out.length = (16 - out.length) + 1 by omega, qLoop] at hloop
    unfold rc
    by_cases c1 : r.e = 0 ∧ r.s ≠ []
    · rw [if_pos c1] at hloop
      have c1a := eq_true c1.1
      have c1b : (0 < r.s.length) = True := eq_true (List.length_pos_iff.2 c1.2)
      by_cases c2 : out.length = 16
      · rw [if_pos c2] at hloop
        have c2' : ((out.length : Int) = 16) = True := eq_true (by omega)
        simp (dsimp := false) [-run_groupK, run_join, h4, h5, c1a, c1b, c2']
        subst hloop
        exact ⟨.nils, by rw [hA], Ext.refl h, by rw [hA]; exact Sl.nil h 2, Hi.nils⟩
      · rw [if_neg c2] at hloop
        have c2' : ((out.length : Int) = 16) = False := eq_false (by omega)
        simp (dsimp := false) [-run_groupK, run_join, h4, h5, c1a, c1b, c2', hT, rc, Pm.cells, splice]
        have ha := append_at (l := h.blks ++ (⟨out.flatMap Pm.cells, out.length, 0, false⟩ :: ⟨[.str r.s, .int .i64 r.e], 0, 0, false⟩ :: (m ++ [⟨rc (qParam r).1, 0, 0, false⟩, ⟨(qParam r).2.cells, 0, 0, false⟩, ⟨(qParam r).2.cells, 0, 0, false⟩])))
          (es := []) (cs := out.flatMap Pm.cells) (ys := (qParam r).2.cells) (k := out.length) (esz := 2) (eb := 24) (b := h.blks.length) (j := h.blks.length + (m.length + 2 + 1 + 1)) (by simp) (by simp (dsimp := false) [Nat.add_assoc]) (flat_len Pm.cells_len out) rfl (by decide) (by simp (dsimp := false) [Pm.cells]) (by omega) (by omega)
        simp (dsimp := false) [rc, Pm.cells] at ha
        refine (W_anyF (F := [(0, 3), (0, 4)]) (by kernel_rfl)).2 ?_
        simp (dsimp := false) [h4, h5, splice, ha]
        refine ⟨16 - out.length, by omega, (qParam r).1, out ++ [(qParam r).2], by simp, by simp; omega, Nat.le_trans (qParam_le r) hrl, ?_, ⟨⟨by simp (dsimp := false) [Pm.cells], by simp⟩, rfl, rfl⟩, by simp⟩
        rw [show 17 - (out ++ [(qParam r).2]).length = 16 - out.length by simp]
        exact hloop
    · rw [if_neg c1] at hloop
      by_cases c3 : r.e = 0
      · have c4 : r.s = [] := Classical.byContradiction fun h => c1 ⟨c3, h⟩
        rw [if_neg (fun h => h c3)] at hloop
        subst hloop
        simp (dsimp := false) [-run_groupK, run_join, h4, h5, c3, c4]
        refine ⟨_, by rw [hA], ⟨⟨out.flatMap Pm.cells, out.length, 0, false⟩ :: ⟨[.str [], .int .i64 0], 0, 0, false⟩ :: m, [], by simp, by simp⟩, ?_, ?_⟩
        · rw [hA]
          exact .inr ⟨_, 0, _, false, ⟨out.flatMap Pm.cells, out.length, 0, false⟩, rfl, by simp, by simp, by simp, by simp only [List.drop_zero]; exact List.take_of_length_le (Nat.le_of_eq (flat_len Pm.cells_len out)), flat_len Pm.cells_len out⟩
        · intro b off n ver z l e
          injection e with e
          omega
      · rw [if_pos c3] at hloop
        subst hloop
        have c3' := eq_false c3
        simp (dsimp := false) [-run_groupK, run_join, h4, c3']
        refine (W_anyF (F := []) (by kernel_rfl)).2 ?_
        simp (dsimp := false) [h4]
        exact ⟨.nils, by rw [hA], Ext.refl h, by rw [hA]; exact Sl.nil h 2, Hi.nils⟩
  · refine ⟨⟨s, 0⟩, [], [], by simp (dsimp := false) [hL, rc]⟩
end Go.Proofs.YtklbbjfbcibghaaGreat
end
section
/-! The document's chunks: what they have, whether they may be. -/
namespace Go.Hl
def qKind (t : Int) : Int :=
  if t = 0 ∨ t = 3 ∨ t = 7 ∨ t = 10 ∨ t = 15 then t else if t = 1 ∨ t = 2 then 1 else if t = 4 ∨ t = 5 then 4 else if t = 6 ∨ t = 9 then 6
  else if t = 8 ∨ t = 11 ∨ t = 14 then 8 else if t = 193 ∨ t = 128 ∨ t = 130 then 16 else 20
def qHas (c : Ck) : Bool :=
  let k := qKind c.typ
  (decide (c.tsn ≠ 0) && !decide (k = 0 ∨ k = 1 ∨ k = 3 ∨ k = 7 ∨ k = 16)) || (decide (c.stream ≠ 0) && decide (k ≠ 0) && decide (k ≠ 15)) || (decide (c.ssn ≠ 0) && decide (k ≠ 0) && decide (k ≠ 15)) || (decide (c.proto ≠ 0) && decide (k ≠ 0)) ||
    (decide (c.data ≠ []) && !decide (k = 0 ∨ k = 4 ∨ k = 10 ∨ k = 15 ∨ k = 20)) || ((decide (c.tag ≠ 0) || decide (c.out ≠ 0) || decide (c.inn ≠ 0)) && decide (k ≠ 1)) || (decide (c.rwnd ≠ 0) && decide (k ≠ 1) && decide (k ≠ 3)) ||
    (decide (0 < c.params.length) && decide (k ≠ 1) && decide (k ≠ 16)) || (decide (0 < c.causes.length) && decide (k ≠ 6)) || (decide (0 < c.gaps.length + c.dups.length) && decide (k ≠ 3))
def qOdd (f t : Int) : Int := ((BitVec.ofInt 64 f &&& BitVec.ofInt 64 (255 - flagsT t)).toNat : Int)
def qMay (c : Ck) : Bool :=
  if c.typ < 0 ∨ 255 < c.typ ∨ c.flags < 0 ∨ 255 < c.flags ∨ IntKind.i64.wrap (qOdd c.flags c.typ) ≠ 0 ∨ qHas c = true ∨ 16 < c.params.length ∨ 16 < c.causes.length ∨ 16 < c.dups.length ∨ 900 < c.data.length ∨ rising c.gaps = false ∨ (qKind c.typ = 1 ∧ c.tag = 0) then false
  else (c.params ++ c.causes).all Pm.may && word c.stream && word c.ssn && word c.out && word c.inn
end Go.Hl
end
section
namespace Go.Proofs.YtklbbjfbcibghaaGreat
open Go.Hl
set_option maxHeartbeats 4000000
variable {C : CallT}
section
variable {h : H} {c : Ck} {vp vc vg vd : V}
theorem chunk_Known (t : Int) : Does Tryz.prog C 136 [.int .i64 t] h = some (.bool (knownT t), h) := by
  refine Does_eq (n := 29) (rs := [.tmp 2]) Tryz.func136 (by kernel_rfl) rfl rfl rfl (by simp) fun σ hg => ?_
  simp (dsimp := false) [-run_groupK, run_join, hg, knownT]
end
end Go.Proofs.YtklbbjfbcibghaaGreat
end
section
namespace Go.Proofs.YtklbbjfbcibghaaGreat
open Go.Hl
set_option maxHeartbeats 1000000
variable {C : CallT}
section
variable {h : H} {c : Ck} {vp vc vg vd : V}
theorem chunk_word (t : Int) : Does Tryz.prog C 126 [.int .i64 t] h = some (.bool (word t), h) := by
  refine Does_eq (n := 9) (rs := [.tmp 2]) Tryz.func126 (by kernel_rfl) rfl rfl rfl (by simp) fun σ hg => ?_
  by_cases h0 : 0 ≤ t <;> by_cases h1 : t < 65536 <;> simp (dsimp := false) [hg, word, h0, h1]
theorem chunk_flags (t : Int) : Does Tryz.prog C 124 [.int .i64 t] h = some (.int .i64 (flagsT t), h) := by
  have h1 := fun h => chunk_Known (C := C) (h := h) t
  refine Does_eq (n := 13) (rs := [.tmp 2]) Tryz.func124 (by kernel_rfl) rfl rfl rfl (by simp) fun σ hg => ?_
  simp (dsimp := false) [hg]
  by_cases a0 : t = 0
  · simp (dsimp := false) [a0, flagsT]
  · by_cases a6 : t = 6
    · simp (dsimp := false) [a6, flagsT]
    · by_cases a9 : t = 9
      · simp (dsimp := false) [a9, flagsT]
      · by_cases a14 : t = 14
        · simp (dsimp := false) [a14, flagsT]
        · cases hk : knownT t <;> simp (dsimp := false) [hg, a0, a6, a9, a14, flagsT, h1, hk]
theorem cause_Put (p : Pm) : Does Tryz.prog C 143 [.agg p.cells] h = some (.str p.put, h) := by
  have h1 := fun h => param_Put (C := C) (h := h) p
  rw [Pm.cells] at *
  refine Does_eq (n := 9) (rs := [.tmp 2]) Tryz.func143 (by kernel_rfl) rfl rfl rfl (by simp) fun σ hg => ?_
  simp (dsimp := false) [hg, splice, h1]
theorem cause_May (p : Pm) : Does Tryz.prog C 138 [.agg p.cells] h = some (.bool p.may, h) := by
  have h1 := fun h => param_May (C := C) (h := h) p
  rw [Pm.cells] at *
  refine Does_eq (n := 9) (rs := [.tmp 2]) Tryz.func138 (by kernel_rfl) rfl rfl rfl (by simp) fun σ hg => ?_
  simp (dsimp := false) [hg, splice, h1]
theorem cause_PutAll {l : List Pm} {v : V} (hs : Sl h 2 l.length (l.flatMap Pm.cells) v) (hl : l.length ≤ 1000000) : Does Tryz.prog C 142 [v] h = some (.str (putAll l), h) := by
  have hlen := hs.len Tryz.underlying28
  obtain ⟨p, hia, hrd, -⟩ := (hs.blks (h' := ⟨h.blks, []⟩) rfl).at Pm.cells_len
  refine Does_eq (n := 18) (rs := [.tmp 2]) Tryz.func142 (by kernel_rfl) rfl rfl rfl (by simp) fun σ hg => ?_
  simp (dsimp := false) [hg, hlen]
  refine W_loopM (fun k σ h' => ∃ i : Nat, ∃ m, k = l.length - i ∧ i ≤ l.length ∧ h' = ⟨h.blks ++ m, []⟩ ∧ σ 6 = v ∧ σ 7 = .int .i64 l.length ∧ σ 8 = .int .i64 i ∧ σ 3 = .str (putAll (l.take i))) ?_ l.length _ _ ?_
  · rintro _ σ _ ⟨i, m, rfl, hi, rfl, h6, h7, h8, h3⟩
    simp (dsimp := false) [h6, h7, h8, h3]
    split
    · rename_i hlt
      have hb := putAll_len (l.take i)
      have hb2 := (l[i]).put_len
      have hll : (l.take i).length ≤ i := by simp; omega
      have hput := fun h => cause_Put (C := C) (h := h) l[i]
      rw [Pm.cells] at hput
      simp (dsimp := false) [h3, h6, h7, h8, hia i hlt, hrd i hlt _ Ext.app, Pm.cells, splice, hput, wrap_succ hlt (by omega)]
      exact ⟨by omega, _, by omega, i + 1, rfl, by omega, by simp, by rw [putAll_take hlt]⟩
    · obtain rfl : i = l.length := by omega
      simp
  · exact ⟨0, [], by simp (dsimp := false) [putAll]⟩
theorem risingL_drop {l : List (Int × Int)} {i : Nat} (h : i < l.length) (a : Int) : risingL a (l.drop i) = if (l[i]).1 < a + 2 ∨ (l[i]).2 < (l[i]).1 ∨ 65536 ≤ (l[i]).2 then false else risingL (l[i]).2 (l.drop (i + 1)) := by
  rw [List.drop_eq_getElem_cons h, risingL]
theorem chunk_rising {l : List (Int × Int)} {v : V} (hs : Sl h 2 l.length (l.flatMap gapCells) v) (hl : l.length ≤ 1000000) : Does Tryz.prog C 127 [v] h = some (.bool (rising l), h) := by
  have hlen := hs.len Tryz.underlying29
  obtain ⟨p, hia, hrd, -⟩ := (hs.blks (h' := ⟨h.blks, []⟩) rfl).at gapCells_len
  refine Does_eq (n := 35) (rs := [.tmp 2]) Tryz.func127 (by kernel_rfl) rfl rfl rfl (by simp) fun σ hg => ?_
  simp (dsimp := false) [hg, hlen]
  refine W_loopM (fun k σ h' => ∃ i : Nat, ∃ m, ∃ a : Int, k = l.length - i ∧ i ≤ l.length ∧ h' = ⟨h.blks ++ m, []⟩ ∧ σ 0 = v ∧ σ 6 = v ∧ σ 7 = .int .i64 l.length ∧ σ 8 = .int .i64 i ∧ σ 3 = .int .i64 a ∧ -1 < a ∧ a < 65536 ∧ risingL 0 l = risingL a (l.drop i)) ?_ l.length _ _ ?_
  · rintro _ σ _ ⟨i, m, a, rfl, hi, rfl, h0, h6, h7, h8, h3, ha, ha', hr⟩
    simp (dsimp := false) [h0, h6, h7, h8]
    split
    · rename_i hlt
      rw [risingL_drop hlt] at hr
      have hw : IntKind.i64.wrap (a + 2) = a + 2 := wrap_i64 (by omega) (by omega)
      simp (dsimp := false) [h0, h3, h6, h7, h8, hia i hlt, hrd i hlt _ Ext.app, gapCells, splice, hw, wrap_succ hlt (by omega)]
      split
      · rename_i c1
        split
        · rename_i c2
          split
          · rename_i c3
            rw [rising, hr, if_pos (by omega), Bool.false_and]
          · rename_i c3
            rw [if_neg (by omega)] at hr
            exact ⟨_, by omega, i + 1, rfl, by omega, by simp, by omega, by omega, hr⟩
        · rename_i c2
          rw [rising, hr, if_pos (by omega), Bool.false_and]
      · rename_i c1
        rw [rising, hr, if_pos (by omega), Bool.false_and]
    · obtain rfl : i = l.length := by omega
      simp (dsimp := false) [h0, hlen, rising, hr, risingL]
      omega
  · exact ⟨0, [], 0, by simp (dsimp := false) [hg]⟩
end
end Go.Proofs.YtklbbjfbcibghaaGreat
end
