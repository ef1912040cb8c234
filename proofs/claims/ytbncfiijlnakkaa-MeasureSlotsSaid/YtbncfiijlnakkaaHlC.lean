/- Part 3 of the library and the walks that the law's proof stands on: no condition. -/
import Derived.Test.YtbncfiijlnakkaaHlB
import Derived.Test.YtbncfiijlnakkaaProg
import Derived.KernelRfl
section
/-! Facts of the program's types and operations (printed by seat.py). -/
namespace Go.Proofs.Ytbncfiijlnakkaa
open Go.Hl
theorem ti3 : ti Try.prog 3 = some ⟨1, false, 8, [.int .i64 0], .int .i64⟩ := by kernel_rfl
theorem ti4 : ti Try.prog 4 = some ⟨1, false, 1, [.bool false], .bool⟩ := by kernel_rfl
theorem ti5 : ti Try.prog 5 = some ⟨1, false, 1, [.int .u8 0], .int .u8⟩ := by kernel_rfl
theorem ti9 : ti Try.prog 9 = some ⟨1, false, 16, [.str []], .str⟩ := by kernel_rfl
theorem ti23 : ti Try.prog 23 = some ⟨1, false, 4, [.int .u32 0], .int .u32⟩ := by kernel_rfl
theorem ti29 : ti Try.prog 29 = some ⟨1, false, 8, [.int .u64 0], .int .u64⟩ := by kernel_rfl
theorem ti30 : ti Try.prog 30 = some ⟨1, false, 24, [.nils], .slice 5 1 1⟩ := by kernel_rfl
theorem ti32 : ti Try.prog 32 = some ⟨1, false, 24, [.nils], .slice 49 15 184⟩ := by kernel_rfl
theorem ti34 : ti Try.prog 34 = some ⟨4, true, 48, [.int .i64 0, .int .i64 0, .int .u32 0, .nils], .struct [(0, 1, false), (1, 1, false), (2, 1, false), (3, 1, false)]⟩ := by kernel_rfl
theorem ti37 : ti Try.prog 37 = some ⟨1, false, 8, [.int .i64 0], .int .i64⟩ := by kernel_rfl
theorem ti44 : ti Try.prog 44 = some ⟨1, false, 24, [.nils], .slice 95 2 24⟩ := by kernel_rfl
theorem ti45 : ti Try.prog 45 = some ⟨1, false, 24, [.nils], .slice 97 2 24⟩ := by kernel_rfl
theorem ti46 : ti Try.prog 46 = some ⟨1, false, 24, [.nils], .slice 99 2 16⟩ := by kernel_rfl
theorem ti47 : ti Try.prog 47 = some ⟨1, false, 24, [.nils], .slice 23 1 4⟩ := by kernel_rfl
theorem ti49 : ti Try.prog 49 = some ⟨15, true, 184, [.int .i64 0, .int .i64 0, .int .u32 0, .int .i64 0, .int .i64 0, .int .u32 0, .str [], .int .u32 0, .int .u32 0, .int .i64 0, .int .i64 0, .nils, .nils, .nils, .nils], .struct [(0, 1, false), (1, 1, false), (2, 1, false), (3, 1, false), (4, 1, false), (5, 1, false), (6, 1, false), (7, 1, false), (8, 1, false), (9, 1, false), (10, 1, false), (11, 1, false), (12, 1, false), (13, 1, false), (14, 1, false)]⟩ := by kernel_rfl
theorem ti59 : ti Try.prog 59 = some ⟨18, true, 144, [.int .i64 0, .int .i64 0, .int .i64 0, .int .i64 0, .int .i64 0, .int .i64 0, .int .i64 0, .int .i64 0, .int .i64 0, .int .i64 0, .int .i64 0, .int .i64 0, .int .i64 0, .int .i64 0, .int .i64 0, .int .i64 0, .int .i64 0, .int .i64 0], .arr 18 1 false⟩ := by kernel_rfl
theorem ti61 : ti Try.prog 61 = some ⟨22, true, 176, [.int .i64 0, .int .i64 0, .int .i64 0, .int .i64 0, .int .i64 0, .int .i64 0, .int .i64 0, .int .i64 0, .int .i64 0, .int .i64 0, .int .i64 0, .int .i64 0, .int .i64 0, .int .i64 0, .int .i64 0, .int .i64 0, .int .i64 0, .int .i64 0, .int .i64 0, .int .i64 0, .int .i64 0, .int .i64 0], .struct [(0, 1, false), (1, 1, false), (2, 1, false), (3, 18, true), (21, 1, false)]⟩ := by kernel_rfl
theorem ti63 : ti Try.prog 63 = some ⟨1, false, 24, [.nils], .slice 34 4 48⟩ := by kernel_rfl
theorem ti66 : ti Try.prog 66 = some ⟨3, true, 24, [.int .u32 0, .int .u32 0, .str []], .struct [(0, 1, false), (1, 1, false), (2, 1, false)]⟩ := by kernel_rfl
theorem ti67 : ti Try.prog 67 = some ⟨1, false, 24, [.nils], .slice 66 3 24⟩ := by kernel_rfl
theorem ti76 : ti Try.prog 76 = some ⟨1, false, 8, [.int .u64 0], .int .u64⟩ := by kernel_rfl
theorem ti79 : ti Try.prog 79 = some ⟨1, false, 8, [.nilp], .ptr 104⟩ := by kernel_rfl
theorem ti87 : ti Try.prog 87 = some ⟨2, true, 24, [.str [], .int .i64 0], .struct [(0, 1, false), (1, 1, false)]⟩ := by kernel_rfl
theorem ti95 : ti Try.prog 95 = some ⟨2, true, 24, [.int .i64 0, .str []], .struct [(0, 1, false), (1, 1, false)]⟩ := by kernel_rfl
theorem ti97 : ti Try.prog 97 = some ⟨2, true, 24, [.int .i64 0, .str []], .struct [(0, 1, false), (1, 1, false)]⟩ := by kernel_rfl
theorem ti99 : ti Try.prog 99 = some ⟨2, true, 16, [.int .i64 0, .int .i64 0], .struct [(0, 1, false), (1, 1, false)]⟩ := by kernel_rfl
theorem ti100 : ti Try.prog 100 = some ⟨1, false, 24, [.nils], .slice 3 1 8⟩ := by kernel_rfl
theorem ti104 : ti Try.prog 104 = some ⟨2, true, 24, [.str [], .int .i64 0], .struct [(0, 1, false), (1, 1, false)]⟩ := by kernel_rfl
theorem ti114 : ti Try.prog 114 = some ⟨1, false, 24, [.nils], .slice 118 2 24⟩ := by kernel_rfl
theorem ti118 : ti Try.prog 118 = some ⟨2, true, 24, [.int .i64 0, .str []], .struct [(0, 1, false), (1, 1, false)]⟩ := by kernel_rfl
section
variable {call : CallT} {d : Option Tmp} {t : TypeId} {p : String} {a : Array Edge} {g : Option (Nat × Bool)} {ρ : Operand → V} {h : H} {x y : Operand} {i : Nat} {Q : V × H → Prop}
@[simp, simp ↓] theorem ld3 : Ok (Hl.step call Try.prog ⟨d, .load 3 x, t, p, a, g⟩ ρ h) Q ↔ Ok (readV ⟨1, false, 8, [.int .i64 0], .int .i64⟩ (ρ x) h) fun v => Q (v, h) := do_load' ti3
@[simp, simp ↓] theorem ld5 : Ok (Hl.step call Try.prog ⟨d, .load 5 x, t, p, a, g⟩ ρ h) Q ↔ Ok (readV ⟨1, false, 1, [.int .u8 0], .int .u8⟩ (ρ x) h) fun v => Q (v, h) := do_load' ti5
@[simp, simp ↓] theorem ld9 : Ok (Hl.step call Try.prog ⟨d, .load 9 x, t, p, a, g⟩ ρ h) Q ↔ Ok (readV ⟨1, false, 16, [.str []], .str⟩ (ρ x) h) fun v => Q (v, h) := do_load' ti9
@[simp, simp ↓] theorem ld23 : Ok (Hl.step call Try.prog ⟨d, .load 23 x, t, p, a, g⟩ ρ h) Q ↔ Ok (readV ⟨1, false, 4, [.int .u32 0], .int .u32⟩ (ρ x) h) fun v => Q (v, h) := do_load' ti23
@[simp, simp ↓] theorem ld32 : Ok (Hl.step call Try.prog ⟨d, .load 32 x, t, p, a, g⟩ ρ h) Q ↔ Ok (readV ⟨1, false, 24, [.nils], .slice 49 15 184⟩ (ρ x) h) fun v => Q (v, h) := do_load' ti32
@[simp, simp ↓] theorem ld34 : Ok (Hl.step call Try.prog ⟨d, .load 34 x, t, p, a, g⟩ ρ h) Q ↔ Ok (readV ⟨4, true, 48, [.int .i64 0, .int .i64 0, .int .u32 0, .nils], .struct [(0, 1, false), (1, 1, false), (2, 1, false), (3, 1, false)]⟩ (ρ x) h) fun v => Q (v, h) := do_load' ti34
@[simp, simp ↓] theorem ld37 : Ok (Hl.step call Try.prog ⟨d, .load 37 x, t, p, a, g⟩ ρ h) Q ↔ Ok (readV ⟨1, false, 8, [.int .i64 0], .int .i64⟩ (ρ x) h) fun v => Q (v, h) := do_load' ti37
@[simp, simp ↓] theorem ld44 : Ok (Hl.step call Try.prog ⟨d, .load 44 x, t, p, a, g⟩ ρ h) Q ↔ Ok (readV ⟨1, false, 24, [.nils], .slice 95 2 24⟩ (ρ x) h) fun v => Q (v, h) := do_load' ti44
@[simp, simp ↓] theorem ld45 : Ok (Hl.step call Try.prog ⟨d, .load 45 x, t, p, a, g⟩ ρ h) Q ↔ Ok (readV ⟨1, false, 24, [.nils], .slice 97 2 24⟩ (ρ x) h) fun v => Q (v, h) := do_load' ti45
@[simp, simp ↓] theorem ld46 : Ok (Hl.step call Try.prog ⟨d, .load 46 x, t, p, a, g⟩ ρ h) Q ↔ Ok (readV ⟨1, false, 24, [.nils], .slice 99 2 16⟩ (ρ x) h) fun v => Q (v, h) := do_load' ti46
@[simp, simp ↓] theorem ld47 : Ok (Hl.step call Try.prog ⟨d, .load 47 x, t, p, a, g⟩ ρ h) Q ↔ Ok (readV ⟨1, false, 24, [.nils], .slice 23 1 4⟩ (ρ x) h) fun v => Q (v, h) := do_load' ti47
@[simp, simp ↓] theorem ld49 : Ok (Hl.step call Try.prog ⟨d, .load 49 x, t, p, a, g⟩ ρ h) Q ↔ Ok (readV ⟨15, true, 184, [.int .i64 0, .int .i64 0, .int .u32 0, .int .i64 0, .int .i64 0, .int .u32 0, .str [], .int .u32 0, .int .u32 0, .int .i64 0, .int .i64 0, .nils, .nils, .nils, .nils], .struct [(0, 1, false), (1, 1, false), (2, 1, false), (3, 1, false), (4, 1, false), (5, 1, false), (6, 1, false), (7, 1, false), (8, 1, false), (9, 1, false), (10, 1, false), (11, 1, false), (12, 1, false), (13, 1, false), (14, 1, false)]⟩ (ρ x) h) fun v => Q (v, h) := do_load' ti49
@[simp, simp ↓] theorem ld61 : Ok (Hl.step call Try.prog ⟨d, .load 61 x, t, p, a, g⟩ ρ h) Q ↔ Ok (readV ⟨22, true, 176, [.int .i64 0, .int .i64 0, .int .i64 0, .int .i64 0, .int .i64 0, .int .i64 0, .int .i64 0, .int .i64 0, .int .i64 0, .int .i64 0, .int .i64 0, .int .i64 0, .int .i64 0, .int .i64 0, .int .i64 0, .int .i64 0, .int .i64 0, .int .i64 0, .int .i64 0, .int .i64 0, .int .i64 0, .int .i64 0], .struct [(0, 1, false), (1, 1, false), (2, 1, false), (3, 18, true), (21, 1, false)]⟩ (ρ x) h) fun v => Q (v, h) := do_load' ti61
@[simp, simp ↓] theorem ld66 : Ok (Hl.step call Try.prog ⟨d, .load 66 x, t, p, a, g⟩ ρ h) Q ↔ Ok (readV ⟨3, true, 24, [.int .u32 0, .int .u32 0, .str []], .struct [(0, 1, false), (1, 1, false), (2, 1, false)]⟩ (ρ x) h) fun v => Q (v, h) := do_load' ti66
@[simp, simp ↓] theorem ld87 : Ok (Hl.step call Try.prog ⟨d, .load 87 x, t, p, a, g⟩ ρ h) Q ↔ Ok (readV ⟨2, true, 24, [.str [], .int .i64 0], .struct [(0, 1, false), (1, 1, false)]⟩ (ρ x) h) fun v => Q (v, h) := do_load' ti87
@[simp, simp ↓] theorem ld95 : Ok (Hl.step call Try.prog ⟨d, .load 95 x, t, p, a, g⟩ ρ h) Q ↔ Ok (readV ⟨2, true, 24, [.int .i64 0, .str []], .struct [(0, 1, false), (1, 1, false)]⟩ (ρ x) h) fun v => Q (v, h) := do_load' ti95
@[simp, simp ↓] theorem ld97 : Ok (Hl.step call Try.prog ⟨d, .load 97 x, t, p, a, g⟩ ρ h) Q ↔ Ok (readV ⟨2, true, 24, [.int .i64 0, .str []], .struct [(0, 1, false), (1, 1, false)]⟩ (ρ x) h) fun v => Q (v, h) := do_load' ti97
@[simp, simp ↓] theorem ld99 : Ok (Hl.step call Try.prog ⟨d, .load 99 x, t, p, a, g⟩ ρ h) Q ↔ Ok (readV ⟨2, true, 16, [.int .i64 0, .int .i64 0], .struct [(0, 1, false), (1, 1, false)]⟩ (ρ x) h) fun v => Q (v, h) := do_load' ti99
@[simp, simp ↓] theorem ld118 : Ok (Hl.step call Try.prog ⟨d, .load 118 x, t, p, a, g⟩ ρ h) Q ↔ Ok (readV ⟨2, true, 24, [.int .i64 0, .str []], .struct [(0, 1, false), (1, 1, false)]⟩ (ρ x) h) fun v => Q (v, h) := do_load' ti118
@[simp, simp ↓] theorem rv3 {v : V} {Q : V → Prop} : Ok (readVar Try.prog 3 v h) Q ↔ Ok (readV ⟨1, false, 8, [.int .i64 0], .int .i64⟩ v h) Q := ok_readVar ti3
@[simp, simp ↓] theorem rv5 {v : V} {Q : V → Prop} : Ok (readVar Try.prog 5 v h) Q ↔ Ok (readV ⟨1, false, 1, [.int .u8 0], .int .u8⟩ v h) Q := ok_readVar ti5
@[simp, simp ↓] theorem rv9 {v : V} {Q : V → Prop} : Ok (readVar Try.prog 9 v h) Q ↔ Ok (readV ⟨1, false, 16, [.str []], .str⟩ v h) Q := ok_readVar ti9
@[simp, simp ↓] theorem rv23 {v : V} {Q : V → Prop} : Ok (readVar Try.prog 23 v h) Q ↔ Ok (readV ⟨1, false, 4, [.int .u32 0], .int .u32⟩ v h) Q := ok_readVar ti23
@[simp, simp ↓] theorem rv32 {v : V} {Q : V → Prop} : Ok (readVar Try.prog 32 v h) Q ↔ Ok (readV ⟨1, false, 24, [.nils], .slice 49 15 184⟩ v h) Q := ok_readVar ti32
@[simp, simp ↓] theorem rv34 {v : V} {Q : V → Prop} : Ok (readVar Try.prog 34 v h) Q ↔ Ok (readV ⟨4, true, 48, [.int .i64 0, .int .i64 0, .int .u32 0, .nils], .struct [(0, 1, false), (1, 1, false), (2, 1, false), (3, 1, false)]⟩ v h) Q := ok_readVar ti34
@[simp, simp ↓] theorem rv37 {v : V} {Q : V → Prop} : Ok (readVar Try.prog 37 v h) Q ↔ Ok (readV ⟨1, false, 8, [.int .i64 0], .int .i64⟩ v h) Q := ok_readVar ti37
@[simp, simp ↓] theorem rv44 {v : V} {Q : V → Prop} : Ok (readVar Try.prog 44 v h) Q ↔ Ok (readV ⟨1, false, 24, [.nils], .slice 95 2 24⟩ v h) Q := ok_readVar ti44
@[simp, simp ↓] theorem rv45 {v : V} {Q : V → Prop} : Ok (readVar Try.prog 45 v h) Q ↔ Ok (readV ⟨1, false, 24, [.nils], .slice 97 2 24⟩ v h) Q := ok_readVar ti45
@[simp, simp ↓] theorem rv46 {v : V} {Q : V → Prop} : Ok (readVar Try.prog 46 v h) Q ↔ Ok (readV ⟨1, false, 24, [.nils], .slice 99 2 16⟩ v h) Q := ok_readVar ti46
@[simp, simp ↓] theorem rv47 {v : V} {Q : V → Prop} : Ok (readVar Try.prog 47 v h) Q ↔ Ok (readV ⟨1, false, 24, [.nils], .slice 23 1 4⟩ v h) Q := ok_readVar ti47
@[simp, simp ↓] theorem rv49 {v : V} {Q : V → Prop} : Ok (readVar Try.prog 49 v h) Q ↔ Ok (readV ⟨15, true, 184, [.int .i64 0, .int .i64 0, .int .u32 0, .int .i64 0, .int .i64 0, .int .u32 0, .str [], .int .u32 0, .int .u32 0, .int .i64 0, .int .i64 0, .nils, .nils, .nils, .nils], .struct [(0, 1, false), (1, 1, false), (2, 1, false), (3, 1, false), (4, 1, false), (5, 1, false), (6, 1, false), (7, 1, false), (8, 1, false), (9, 1, false), (10, 1, false), (11, 1, false), (12, 1, false), (13, 1, false), (14, 1, false)]⟩ v h) Q := ok_readVar ti49
@[simp, simp ↓] theorem rv61 {v : V} {Q : V → Prop} : Ok (readVar Try.prog 61 v h) Q ↔ Ok (readV ⟨22, true, 176, [.int .i64 0, .int .i64 0, .int .i64 0, .int .i64 0, .int .i64 0, .int .i64 0, .int .i64 0, .int .i64 0, .int .i64 0, .int .i64 0, .int .i64 0, .int .i64 0, .int .i64 0, .int .i64 0, .int .i64 0, .int .i64 0, .int .i64 0, .int .i64 0, .int .i64 0, .int .i64 0, .int .i64 0, .int .i64 0], .struct [(0, 1, false), (1, 1, false), (2, 1, false), (3, 18, true), (21, 1, false)]⟩ v h) Q := ok_readVar ti61
@[simp, simp ↓] theorem rv66 {v : V} {Q : V → Prop} : Ok (readVar Try.prog 66 v h) Q ↔ Ok (readV ⟨3, true, 24, [.int .u32 0, .int .u32 0, .str []], .struct [(0, 1, false), (1, 1, false), (2, 1, false)]⟩ v h) Q := ok_readVar ti66
@[simp, simp ↓] theorem rv87 {v : V} {Q : V → Prop} : Ok (readVar Try.prog 87 v h) Q ↔ Ok (readV ⟨2, true, 24, [.str [], .int .i64 0], .struct [(0, 1, false), (1, 1, false)]⟩ v h) Q := ok_readVar ti87
@[simp, simp ↓] theorem rv95 {v : V} {Q : V → Prop} : Ok (readVar Try.prog 95 v h) Q ↔ Ok (readV ⟨2, true, 24, [.int .i64 0, .str []], .struct [(0, 1, false), (1, 1, false)]⟩ v h) Q := ok_readVar ti95
@[simp, simp ↓] theorem rv97 {v : V} {Q : V → Prop} : Ok (readVar Try.prog 97 v h) Q ↔ Ok (readV ⟨2, true, 24, [.int .i64 0, .str []], .struct [(0, 1, false), (1, 1, false)]⟩ v h) Q := ok_readVar ti97
@[simp, simp ↓] theorem rv99 {v : V} {Q : V → Prop} : Ok (readVar Try.prog 99 v h) Q ↔ Ok (readV ⟨2, true, 16, [.int .i64 0, .int .i64 0], .struct [(0, 1, false), (1, 1, false)]⟩ v h) Q := ok_readVar ti99
@[simp, simp ↓] theorem rv118 {v : V} {Q : V → Prop} : Ok (readVar Try.prog 118 v h) Q ↔ Ok (readV ⟨2, true, 24, [.int .i64 0, .str []], .struct [(0, 1, false), (1, 1, false)]⟩ v h) Q := ok_readVar ti118
@[simp] theorem lde3 : stepE call Try.prog ⟨d, .load 3 x, t, p, a, g⟩ ρ h = (readE 1 false (ρ x) h).map fun v => (v, h) := stepE_load ti3
@[simp] theorem lde5 : stepE call Try.prog ⟨d, .load 5 x, t, p, a, g⟩ ρ h = (readE 1 false (ρ x) h).map fun v => (v, h) := stepE_load ti5
@[simp] theorem lde9 : stepE call Try.prog ⟨d, .load 9 x, t, p, a, g⟩ ρ h = (readE 1 false (ρ x) h).map fun v => (v, h) := stepE_load ti9
@[simp] theorem lde23 : stepE call Try.prog ⟨d, .load 23 x, t, p, a, g⟩ ρ h = (readE 1 false (ρ x) h).map fun v => (v, h) := stepE_load ti23
@[simp] theorem lde32 : stepE call Try.prog ⟨d, .load 32 x, t, p, a, g⟩ ρ h = (readE 1 false (ρ x) h).map fun v => (v, h) := stepE_load ti32
@[simp] theorem lde34 : stepE call Try.prog ⟨d, .load 34 x, t, p, a, g⟩ ρ h = (readE 4 true (ρ x) h).map fun v => (v, h) := stepE_load ti34
@[simp] theorem lde37 : stepE call Try.prog ⟨d, .load 37 x, t, p, a, g⟩ ρ h = (readE 1 false (ρ x) h).map fun v => (v, h) := stepE_load ti37
@[simp] theorem lde44 : stepE call Try.prog ⟨d, .load 44 x, t, p, a, g⟩ ρ h = (readE 1 false (ρ x) h).map fun v => (v, h) := stepE_load ti44
@[simp] theorem lde45 : stepE call Try.prog ⟨d, .load 45 x, t, p, a, g⟩ ρ h = (readE 1 false (ρ x) h).map fun v => (v, h) := stepE_load ti45
@[simp] theorem lde46 : stepE call Try.prog ⟨d, .load 46 x, t, p, a, g⟩ ρ h = (readE 1 false (ρ x) h).map fun v => (v, h) := stepE_load ti46
@[simp] theorem lde47 : stepE call Try.prog ⟨d, .load 47 x, t, p, a, g⟩ ρ h = (readE 1 false (ρ x) h).map fun v => (v, h) := stepE_load ti47
@[simp] theorem lde49 : stepE call Try.prog ⟨d, .load 49 x, t, p, a, g⟩ ρ h = (readE 15 true (ρ x) h).map fun v => (v, h) := stepE_load ti49
@[simp] theorem lde61 : stepE call Try.prog ⟨d, .load 61 x, t, p, a, g⟩ ρ h = (readE 22 true (ρ x) h).map fun v => (v, h) := stepE_load ti61
@[simp] theorem lde66 : stepE call Try.prog ⟨d, .load 66 x, t, p, a, g⟩ ρ h = (readE 3 true (ρ x) h).map fun v => (v, h) := stepE_load ti66
@[simp] theorem lde87 : stepE call Try.prog ⟨d, .load 87 x, t, p, a, g⟩ ρ h = (readE 2 true (ρ x) h).map fun v => (v, h) := stepE_load ti87
@[simp] theorem lde95 : stepE call Try.prog ⟨d, .load 95 x, t, p, a, g⟩ ρ h = (readE 2 true (ρ x) h).map fun v => (v, h) := stepE_load ti95
@[simp] theorem lde97 : stepE call Try.prog ⟨d, .load 97 x, t, p, a, g⟩ ρ h = (readE 2 true (ρ x) h).map fun v => (v, h) := stepE_load ti97
@[simp] theorem lde99 : stepE call Try.prog ⟨d, .load 99 x, t, p, a, g⟩ ρ h = (readE 2 true (ρ x) h).map fun v => (v, h) := stepE_load ti99
@[simp] theorem lde118 : stepE call Try.prog ⟨d, .load 118 x, t, p, a, g⟩ ρ h = (readE 2 true (ρ x) h).map fun v => (v, h) := stepE_load ti118
@[simp] theorem fae34 : stepE call Try.prog ⟨d, .fieldAddr 34 x i, t, p, a, g⟩ ρ h = (fieldAddrV ⟨4, true, 48, [.int .i64 0, .int .i64 0, .int .u32 0, .nils], .struct [(0, 1, false), (1, 1, false), (2, 1, false), (3, 1, false)]⟩ (ρ x) i).map fun v => (v, h) := stepE_fieldAddr ti34
@[simp] theorem fae49 : stepE call Try.prog ⟨d, .fieldAddr 49 x i, t, p, a, g⟩ ρ h = (fieldAddrV ⟨15, true, 184, [.int .i64 0, .int .i64 0, .int .u32 0, .int .i64 0, .int .i64 0, .int .u32 0, .str [], .int .u32 0, .int .u32 0, .int .i64 0, .int .i64 0, .nils, .nils, .nils, .nils], .struct [(0, 1, false), (1, 1, false), (2, 1, false), (3, 1, false), (4, 1, false), (5, 1, false), (6, 1, false), (7, 1, false), (8, 1, false), (9, 1, false), (10, 1, false), (11, 1, false), (12, 1, false), (13, 1, false), (14, 1, false)]⟩ (ρ x) i).map fun v => (v, h) := stepE_fieldAddr ti49
@[simp] theorem fae61 : stepE call Try.prog ⟨d, .fieldAddr 61 x i, t, p, a, g⟩ ρ h = (fieldAddrV ⟨22, true, 176, [.int .i64 0, .int .i64 0, .int .i64 0, .int .i64 0, .int .i64 0, .int .i64 0, .int .i64 0, .int .i64 0, .int .i64 0, .int .i64 0, .int .i64 0, .int .i64 0, .int .i64 0, .int .i64 0, .int .i64 0, .int .i64 0, .int .i64 0, .int .i64 0, .int .i64 0, .int .i64 0, .int .i64 0, .int .i64 0], .struct [(0, 1, false), (1, 1, false), (2, 1, false), (3, 18, true), (21, 1, false)]⟩ (ρ x) i).map fun v => (v, h) := stepE_fieldAddr ti61
@[simp] theorem fae66 : stepE call Try.prog ⟨d, .fieldAddr 66 x i, t, p, a, g⟩ ρ h = (fieldAddrV ⟨3, true, 24, [.int .u32 0, .int .u32 0, .str []], .struct [(0, 1, false), (1, 1, false), (2, 1, false)]⟩ (ρ x) i).map fun v => (v, h) := stepE_fieldAddr ti66
@[simp] theorem fae87 : stepE call Try.prog ⟨d, .fieldAddr 87 x i, t, p, a, g⟩ ρ h = (fieldAddrV ⟨2, true, 24, [.str [], .int .i64 0], .struct [(0, 1, false), (1, 1, false)]⟩ (ρ x) i).map fun v => (v, h) := stepE_fieldAddr ti87
@[simp] theorem fae95 : stepE call Try.prog ⟨d, .fieldAddr 95 x i, t, p, a, g⟩ ρ h = (fieldAddrV ⟨2, true, 24, [.int .i64 0, .str []], .struct [(0, 1, false), (1, 1, false)]⟩ (ρ x) i).map fun v => (v, h) := stepE_fieldAddr ti95
@[simp] theorem fae97 : stepE call Try.prog ⟨d, .fieldAddr 97 x i, t, p, a, g⟩ ρ h = (fieldAddrV ⟨2, true, 24, [.int .i64 0, .str []], .struct [(0, 1, false), (1, 1, false)]⟩ (ρ x) i).map fun v => (v, h) := stepE_fieldAddr ti97
@[simp] theorem fae99 : stepE call Try.prog ⟨d, .fieldAddr 99 x i, t, p, a, g⟩ ρ h = (fieldAddrV ⟨2, true, 16, [.int .i64 0, .int .i64 0], .struct [(0, 1, false), (1, 1, false)]⟩ (ρ x) i).map fun v => (v, h) := stepE_fieldAddr ti99
@[simp] theorem fae104 : stepE call Try.prog ⟨d, .fieldAddr 104 x i, t, p, a, g⟩ ρ h = (fieldAddrV ⟨2, true, 24, [.str [], .int .i64 0], .struct [(0, 1, false), (1, 1, false)]⟩ (ρ x) i).map fun v => (v, h) := stepE_fieldAddr ti104
@[simp] theorem fae118 : stepE call Try.prog ⟨d, .fieldAddr 118 x i, t, p, a, g⟩ ρ h = (fieldAddrV ⟨2, true, 24, [.int .i64 0, .str []], .struct [(0, 1, false), (1, 1, false)]⟩ (ρ x) i).map fun v => (v, h) := stepE_fieldAddr ti118
@[simp] theorem cve3_5 : stepE call Try.prog ⟨d, .convert 3 5 x, t, p, a, g⟩ ρ h = (convV .u8 (ρ x)).map fun v => (v, h) := stepE_conv Try.underlying3 Try.underlying5
@[simp] theorem cve3_29 : stepE call Try.prog ⟨d, .convert 3 29 x, t, p, a, g⟩ ρ h = (convV .u64 (ρ x)).map fun v => (v, h) := stepE_conv Try.underlying3 Try.underlying29
@[simp] theorem cve3_76 : stepE call Try.prog ⟨d, .convert 3 76 x, t, p, a, g⟩ ρ h = (convV .u64 (ρ x)).map fun v => (v, h) := stepE_conv Try.underlying3 Try.underlying76
@[simp] theorem cve5_23 : stepE call Try.prog ⟨d, .convert 5 23 x, t, p, a, g⟩ ρ h = (convV .u32 (ρ x)).map fun v => (v, h) := stepE_conv Try.underlying5 Try.underlying23
@[simp] theorem cve5_76 : stepE call Try.prog ⟨d, .convert 5 76 x, t, p, a, g⟩ ρ h = (convV .u64 (ρ x)).map fun v => (v, h) := stepE_conv Try.underlying5 Try.underlying76
@[simp] theorem cve23_3 : stepE call Try.prog ⟨d, .convert 23 3 x, t, p, a, g⟩ ρ h = (convV .i64 (ρ x)).map fun v => (v, h) := stepE_conv Try.underlying23 Try.underlying3
@[simp] theorem cve23_5 : stepE call Try.prog ⟨d, .convert 23 5 x, t, p, a, g⟩ ρ h = (convV .u8 (ρ x)).map fun v => (v, h) := stepE_conv Try.underlying23 Try.underlying5
@[simp] theorem cve23_76 : stepE call Try.prog ⟨d, .convert 23 76 x, t, p, a, g⟩ ρ h = (convV .u64 (ρ x)).map fun v => (v, h) := stepE_conv Try.underlying23 Try.underlying76
@[simp] theorem cve76_3 : stepE call Try.prog ⟨d, .convert 76 3 x, t, p, a, g⟩ ρ h = (convV .i64 (ρ x)).map fun v => (v, h) := stepE_conv Try.underlying76 Try.underlying3
@[simp] theorem cve76_5 : stepE call Try.prog ⟨d, .convert 76 5 x, t, p, a, g⟩ ρ h = (convV .u8 (ρ x)).map fun v => (v, h) := stepE_conv Try.underlying76 Try.underlying5
@[simp] theorem cve76_23 : stepE call Try.prog ⟨d, .convert 76 23 x, t, p, a, g⟩ ρ h = (convV .u32 (ρ x)).map fun v => (v, h) := stepE_conv Try.underlying76 Try.underlying23
@[simp, simp ↓] theorem st3 : Ok (Hl.step call Try.prog ⟨d, .store 3 x y, t, p, a, g⟩ ρ h) Q ↔ Ok (storeV 1 h (ρ y) (ρ x)) fun h' => Q (.undef, h') := do_store' ti3
@[simp, simp ↓] theorem st5 : Ok (Hl.step call Try.prog ⟨d, .store 5 x y, t, p, a, g⟩ ρ h) Q ↔ Ok (storeV 1 h (ρ y) (ρ x)) fun h' => Q (.undef, h') := do_store' ti5
@[simp, simp ↓] theorem st9 : Ok (Hl.step call Try.prog ⟨d, .store 9 x y, t, p, a, g⟩ ρ h) Q ↔ Ok (storeV 1 h (ρ y) (ρ x)) fun h' => Q (.undef, h') := do_store' ti9
@[simp, simp ↓] theorem st23 : Ok (Hl.step call Try.prog ⟨d, .store 23 x y, t, p, a, g⟩ ρ h) Q ↔ Ok (storeV 1 h (ρ y) (ρ x)) fun h' => Q (.undef, h') := do_store' ti23
@[simp, simp ↓] theorem st32 : Ok (Hl.step call Try.prog ⟨d, .store 32 x y, t, p, a, g⟩ ρ h) Q ↔ Ok (storeV 1 h (ρ y) (ρ x)) fun h' => Q (.undef, h') := do_store' ti32
@[simp, simp ↓] theorem st34 : Ok (Hl.step call Try.prog ⟨d, .store 34 x y, t, p, a, g⟩ ρ h) Q ↔ Ok (storeV 4 h (ρ y) (ρ x)) fun h' => Q (.undef, h') := do_store' ti34
@[simp, simp ↓] theorem st37 : Ok (Hl.step call Try.prog ⟨d, .store 37 x y, t, p, a, g⟩ ρ h) Q ↔ Ok (storeV 1 h (ρ y) (ρ x)) fun h' => Q (.undef, h') := do_store' ti37
@[simp, simp ↓] theorem st44 : Ok (Hl.step call Try.prog ⟨d, .store 44 x y, t, p, a, g⟩ ρ h) Q ↔ Ok (storeV 1 h (ρ y) (ρ x)) fun h' => Q (.undef, h') := do_store' ti44
@[simp, simp ↓] theorem st45 : Ok (Hl.step call Try.prog ⟨d, .store 45 x y, t, p, a, g⟩ ρ h) Q ↔ Ok (storeV 1 h (ρ y) (ρ x)) fun h' => Q (.undef, h') := do_store' ti45
@[simp, simp ↓] theorem st46 : Ok (Hl.step call Try.prog ⟨d, .store 46 x y, t, p, a, g⟩ ρ h) Q ↔ Ok (storeV 1 h (ρ y) (ρ x)) fun h' => Q (.undef, h') := do_store' ti46
@[simp, simp ↓] theorem st47 : Ok (Hl.step call Try.prog ⟨d, .store 47 x y, t, p, a, g⟩ ρ h) Q ↔ Ok (storeV 1 h (ρ y) (ρ x)) fun h' => Q (.undef, h') := do_store' ti47
@[simp, simp ↓] theorem st49 : Ok (Hl.step call Try.prog ⟨d, .store 49 x y, t, p, a, g⟩ ρ h) Q ↔ Ok (storeV 15 h (ρ y) (ρ x)) fun h' => Q (.undef, h') := do_store' ti49
@[simp, simp ↓] theorem st61 : Ok (Hl.step call Try.prog ⟨d, .store 61 x y, t, p, a, g⟩ ρ h) Q ↔ Ok (storeV 22 h (ρ y) (ρ x)) fun h' => Q (.undef, h') := do_store' ti61
@[simp, simp ↓] theorem st66 : Ok (Hl.step call Try.prog ⟨d, .store 66 x y, t, p, a, g⟩ ρ h) Q ↔ Ok (storeV 3 h (ρ y) (ρ x)) fun h' => Q (.undef, h') := do_store' ti66
@[simp, simp ↓] theorem st87 : Ok (Hl.step call Try.prog ⟨d, .store 87 x y, t, p, a, g⟩ ρ h) Q ↔ Ok (storeV 2 h (ρ y) (ρ x)) fun h' => Q (.undef, h') := do_store' ti87
@[simp, simp ↓] theorem st95 : Ok (Hl.step call Try.prog ⟨d, .store 95 x y, t, p, a, g⟩ ρ h) Q ↔ Ok (storeV 2 h (ρ y) (ρ x)) fun h' => Q (.undef, h') := do_store' ti95
@[simp, simp ↓] theorem st97 : Ok (Hl.step call Try.prog ⟨d, .store 97 x y, t, p, a, g⟩ ρ h) Q ↔ Ok (storeV 2 h (ρ y) (ρ x)) fun h' => Q (.undef, h') := do_store' ti97
@[simp, simp ↓] theorem st99 : Ok (Hl.step call Try.prog ⟨d, .store 99 x y, t, p, a, g⟩ ρ h) Q ↔ Ok (storeV 2 h (ρ y) (ρ x)) fun h' => Q (.undef, h') := do_store' ti99
@[simp, simp ↓] theorem st118 : Ok (Hl.step call Try.prog ⟨d, .store 118 x y, t, p, a, g⟩ ρ h) Q ↔ Ok (storeV 2 h (ρ y) (ρ x)) fun h' => Q (.undef, h') := do_store' ti118
@[simp, simp ↓] theorem al34 : Ok (Hl.step call Try.prog ⟨d, .alloc 34, t, p, a, g⟩ ρ h) Q ↔ Q (.ptr h.size 0 0 4, h.new [.int .i64 0, .int .i64 0, .int .u32 0, .nils]) := (do_alloc' ti34).trans (by simp)
@[simp, simp ↓] theorem al49 : Ok (Hl.step call Try.prog ⟨d, .alloc 49, t, p, a, g⟩ ρ h) Q ↔ Q (.ptr h.size 0 0 15, h.new [.int .i64 0, .int .i64 0, .int .u32 0, .int .i64 0, .int .i64 0, .int .u32 0, .str [], .int .u32 0, .int .u32 0, .int .i64 0, .int .i64 0, .nils, .nils, .nils, .nils]) := (do_alloc' ti49).trans (by simp)
@[simp, simp ↓] theorem al61 : Ok (Hl.step call Try.prog ⟨d, .alloc 61, t, p, a, g⟩ ρ h) Q ↔ Q (.ptr h.size 0 0 22, h.new [.int .i64 0, .int .i64 0, .int .i64 0, .int .i64 0, .int .i64 0, .int .i64 0, .int .i64 0, .int .i64 0, .int .i64 0, .int .i64 0, .int .i64 0, .int .i64 0, .int .i64 0, .int .i64 0, .int .i64 0, .int .i64 0, .int .i64 0, .int .i64 0, .int .i64 0, .int .i64 0, .int .i64 0, .int .i64 0]) := (do_alloc' ti61).trans (by simp)
@[simp, simp ↓] theorem al66 : Ok (Hl.step call Try.prog ⟨d, .alloc 66, t, p, a, g⟩ ρ h) Q ↔ Q (.ptr h.size 0 0 3, h.new [.int .u32 0, .int .u32 0, .str []]) := (do_alloc' ti66).trans (by simp)
@[simp, simp ↓] theorem al87 : Ok (Hl.step call Try.prog ⟨d, .alloc 87, t, p, a, g⟩ ρ h) Q ↔ Q (.ptr h.size 0 0 2, h.new [.str [], .int .i64 0]) := (do_alloc' ti87).trans (by simp)
@[simp, simp ↓] theorem al95 : Ok (Hl.step call Try.prog ⟨d, .alloc 95, t, p, a, g⟩ ρ h) Q ↔ Q (.ptr h.size 0 0 2, h.new [.int .i64 0, .str []]) := (do_alloc' ti95).trans (by simp)
@[simp, simp ↓] theorem al97 : Ok (Hl.step call Try.prog ⟨d, .alloc 97, t, p, a, g⟩ ρ h) Q ↔ Q (.ptr h.size 0 0 2, h.new [.int .i64 0, .str []]) := (do_alloc' ti97).trans (by simp)
@[simp, simp ↓] theorem al99 : Ok (Hl.step call Try.prog ⟨d, .alloc 99, t, p, a, g⟩ ρ h) Q ↔ Q (.ptr h.size 0 0 2, h.new [.int .i64 0, .int .i64 0]) := (do_alloc' ti99).trans (by simp)
@[simp, simp ↓] theorem al118 : Ok (Hl.step call Try.prog ⟨d, .alloc 118, t, p, a, g⟩ ρ h) Q ↔ Q (.ptr h.size 0 0 2, h.new [.int .i64 0, .str []]) := (do_alloc' ti118).trans (by simp)
@[simp, simp ↓] theorem sli9 {lo hi : Option Operand} : Ok (Hl.step call Try.prog ⟨d, .slice 9 x lo hi none, t, p, a, g⟩ ρ h) Q ↔ Ok (sliceV ⟨1, false, 16, [.str []], .str⟩ (ρ x) (lo.map ρ) (hi.map ρ)) fun v => Q (v, h) := do_slice' ti9
@[simp, simp ↓] theorem sli46 {lo hi : Option Operand} : Ok (Hl.step call Try.prog ⟨d, .slice 46 x lo hi none, t, p, a, g⟩ ρ h) Q ↔ Ok (sliceV ⟨1, false, 24, [.nils], .slice 99 2 16⟩ (ρ x) (lo.map ρ) (hi.map ρ)) fun v => Q (v, h) := do_slice' ti46
@[simp, simp ↓] theorem sli47 {lo hi : Option Operand} : Ok (Hl.step call Try.prog ⟨d, .slice 47 x lo hi none, t, p, a, g⟩ ρ h) Q ↔ Ok (sliceV ⟨1, false, 24, [.nils], .slice 23 1 4⟩ (ρ x) (lo.map ρ) (hi.map ρ)) fun v => Q (v, h) := do_slice' ti47
@[simp, simp ↓] theorem sli67 {lo hi : Option Operand} : Ok (Hl.step call Try.prog ⟨d, .slice 67 x lo hi none, t, p, a, g⟩ ρ h) Q ↔ Ok (sliceV ⟨1, false, 24, [.nils], .slice 66 3 24⟩ (ρ x) (lo.map ρ) (hi.map ρ)) fun v => Q (v, h) := do_slice' ti67
@[simp, simp ↓] theorem fa34 : Ok (Hl.step call Try.prog ⟨d, .fieldAddr 34 x i, t, p, a, g⟩ ρ h) Q ↔ Ok (fieldAddrV ⟨4, true, 48, [.int .i64 0, .int .i64 0, .int .u32 0, .nils], .struct [(0, 1, false), (1, 1, false), (2, 1, false), (3, 1, false)]⟩ (ρ x) i) fun v => Q (v, h) := do_fieldAddr' ti34
@[simp, simp ↓] theorem fa49 : Ok (Hl.step call Try.prog ⟨d, .fieldAddr 49 x i, t, p, a, g⟩ ρ h) Q ↔ Ok (fieldAddrV ⟨15, true, 184, [.int .i64 0, .int .i64 0, .int .u32 0, .int .i64 0, .int .i64 0, .int .u32 0, .str [], .int .u32 0, .int .u32 0, .int .i64 0, .int .i64 0, .nils, .nils, .nils, .nils], .struct [(0, 1, false), (1, 1, false), (2, 1, false), (3, 1, false), (4, 1, false), (5, 1, false), (6, 1, false), (7, 1, false), (8, 1, false), (9, 1, false), (10, 1, false), (11, 1, false), (12, 1, false), (13, 1, false), (14, 1, false)]⟩ (ρ x) i) fun v => Q (v, h) := do_fieldAddr' ti49
@[simp, simp ↓] theorem fa61 : Ok (Hl.step call Try.prog ⟨d, .fieldAddr 61 x i, t, p, a, g⟩ ρ h) Q ↔ Ok (fieldAddrV ⟨22, true, 176, [.int .i64 0, .int .i64 0, .int .i64 0, .int .i64 0, .int .i64 0, .int .i64 0, .int .i64 0, .int .i64 0, .int .i64 0, .int .i64 0, .int .i64 0, .int .i64 0, .int .i64 0, .int .i64 0, .int .i64 0, .int .i64 0, .int .i64 0, .int .i64 0, .int .i64 0, .int .i64 0, .int .i64 0, .int .i64 0], .struct [(0, 1, false), (1, 1, false), (2, 1, false), (3, 18, true), (21, 1, false)]⟩ (ρ x) i) fun v => Q (v, h) := do_fieldAddr' ti61
@[simp, simp ↓] theorem fa66 : Ok (Hl.step call Try.prog ⟨d, .fieldAddr 66 x i, t, p, a, g⟩ ρ h) Q ↔ Ok (fieldAddrV ⟨3, true, 24, [.int .u32 0, .int .u32 0, .str []], .struct [(0, 1, false), (1, 1, false), (2, 1, false)]⟩ (ρ x) i) fun v => Q (v, h) := do_fieldAddr' ti66
@[simp, simp ↓] theorem fa87 : Ok (Hl.step call Try.prog ⟨d, .fieldAddr 87 x i, t, p, a, g⟩ ρ h) Q ↔ Ok (fieldAddrV ⟨2, true, 24, [.str [], .int .i64 0], .struct [(0, 1, false), (1, 1, false)]⟩ (ρ x) i) fun v => Q (v, h) := do_fieldAddr' ti87
@[simp, simp ↓] theorem fa95 : Ok (Hl.step call Try.prog ⟨d, .fieldAddr 95 x i, t, p, a, g⟩ ρ h) Q ↔ Ok (fieldAddrV ⟨2, true, 24, [.int .i64 0, .str []], .struct [(0, 1, false), (1, 1, false)]⟩ (ρ x) i) fun v => Q (v, h) := do_fieldAddr' ti95
@[simp, simp ↓] theorem fa97 : Ok (Hl.step call Try.prog ⟨d, .fieldAddr 97 x i, t, p, a, g⟩ ρ h) Q ↔ Ok (fieldAddrV ⟨2, true, 24, [.int .i64 0, .str []], .struct [(0, 1, false), (1, 1, false)]⟩ (ρ x) i) fun v => Q (v, h) := do_fieldAddr' ti97
@[simp, simp ↓] theorem fa99 : Ok (Hl.step call Try.prog ⟨d, .fieldAddr 99 x i, t, p, a, g⟩ ρ h) Q ↔ Ok (fieldAddrV ⟨2, true, 16, [.int .i64 0, .int .i64 0], .struct [(0, 1, false), (1, 1, false)]⟩ (ρ x) i) fun v => Q (v, h) := do_fieldAddr' ti99
@[simp, simp ↓] theorem fa104 : Ok (Hl.step call Try.prog ⟨d, .fieldAddr 104 x i, t, p, a, g⟩ ρ h) Q ↔ Ok (fieldAddrV ⟨2, true, 24, [.str [], .int .i64 0], .struct [(0, 1, false), (1, 1, false)]⟩ (ρ x) i) fun v => Q (v, h) := do_fieldAddr' ti104
@[simp, simp ↓] theorem fa118 : Ok (Hl.step call Try.prog ⟨d, .fieldAddr 118 x i, t, p, a, g⟩ ρ h) Q ↔ Ok (fieldAddrV ⟨2, true, 24, [.int .i64 0, .str []], .struct [(0, 1, false), (1, 1, false)]⟩ (ρ x) i) fun v => Q (v, h) := do_fieldAddr' ti118
@[simp, simp ↓] theorem ia30 : Ok (Hl.step call Try.prog ⟨d, .indexAddr 30 x y, t, p, a, g⟩ ρ h) Q ↔ Ok (indexAddrV ⟨1, false, 24, [.nils], .slice 5 1 1⟩ (ρ x) (ρ y)) fun v => Q (v, h) := do_indexAddr' ti30
@[simp, simp ↓] theorem ia32 : Ok (Hl.step call Try.prog ⟨d, .indexAddr 32 x y, t, p, a, g⟩ ρ h) Q ↔ Ok (indexAddrV ⟨1, false, 24, [.nils], .slice 49 15 184⟩ (ρ x) (ρ y)) fun v => Q (v, h) := do_indexAddr' ti32
@[simp, simp ↓] theorem ia44 : Ok (Hl.step call Try.prog ⟨d, .indexAddr 44 x y, t, p, a, g⟩ ρ h) Q ↔ Ok (indexAddrV ⟨1, false, 24, [.nils], .slice 95 2 24⟩ (ρ x) (ρ y)) fun v => Q (v, h) := do_indexAddr' ti44
@[simp, simp ↓] theorem ia45 : Ok (Hl.step call Try.prog ⟨d, .indexAddr 45 x y, t, p, a, g⟩ ρ h) Q ↔ Ok (indexAddrV ⟨1, false, 24, [.nils], .slice 97 2 24⟩ (ρ x) (ρ y)) fun v => Q (v, h) := do_indexAddr' ti45
@[simp, simp ↓] theorem ia46 : Ok (Hl.step call Try.prog ⟨d, .indexAddr 46 x y, t, p, a, g⟩ ρ h) Q ↔ Ok (indexAddrV ⟨1, false, 24, [.nils], .slice 99 2 16⟩ (ρ x) (ρ y)) fun v => Q (v, h) := do_indexAddr' ti46
@[simp, simp ↓] theorem ia47 : Ok (Hl.step call Try.prog ⟨d, .indexAddr 47 x y, t, p, a, g⟩ ρ h) Q ↔ Ok (indexAddrV ⟨1, false, 24, [.nils], .slice 23 1 4⟩ (ρ x) (ρ y)) fun v => Q (v, h) := do_indexAddr' ti47
@[simp, simp ↓] theorem ia59 : Ok (Hl.step call Try.prog ⟨d, .indexAddr 59 x y, t, p, a, g⟩ ρ h) Q ↔ Ok (indexAddrV ⟨18, true, 144, [.int .i64 0, .int .i64 0, .int .i64 0, .int .i64 0, .int .i64 0, .int .i64 0, .int .i64 0, .int .i64 0, .int .i64 0, .int .i64 0, .int .i64 0, .int .i64 0, .int .i64 0, .int .i64 0, .int .i64 0, .int .i64 0, .int .i64 0, .int .i64 0], .arr 18 1 false⟩ (ρ x) (ρ y)) fun v => Q (v, h) := do_indexAddr' ti59
@[simp, simp ↓] theorem ia63 : Ok (Hl.step call Try.prog ⟨d, .indexAddr 63 x y, t, p, a, g⟩ ρ h) Q ↔ Ok (indexAddrV ⟨1, false, 24, [.nils], .slice 34 4 48⟩ (ρ x) (ρ y)) fun v => Q (v, h) := do_indexAddr' ti63
@[simp, simp ↓] theorem ia67 : Ok (Hl.step call Try.prog ⟨d, .indexAddr 67 x y, t, p, a, g⟩ ρ h) Q ↔ Ok (indexAddrV ⟨1, false, 24, [.nils], .slice 66 3 24⟩ (ρ x) (ρ y)) fun v => Q (v, h) := do_indexAddr' ti67
@[simp, simp ↓] theorem ia100 : Ok (Hl.step call Try.prog ⟨d, .indexAddr 100 x y, t, p, a, g⟩ ρ h) Q ↔ Ok (indexAddrV ⟨1, false, 24, [.nils], .slice 3 1 8⟩ (ρ x) (ρ y)) fun v => Q (v, h) := do_indexAddr' ti100
@[simp, simp ↓] theorem ia114 : Ok (Hl.step call Try.prog ⟨d, .indexAddr 114 x y, t, p, a, g⟩ ρ h) Q ↔ Ok (indexAddrV ⟨1, false, 24, [.nils], .slice 118 2 24⟩ (ρ x) (ρ y)) fun v => Q (v, h) := do_indexAddr' ti114
@[simp, simp ↓] theorem ix9 : Ok (Hl.step call Try.prog ⟨d, .index 9 x y, t, p, a, g⟩ ρ h) Q ↔ Ok (indexV ⟨1, false, 16, [.str []], .str⟩ (ρ x) (ρ y)) fun v => Q (v, h) := do_index' ti9
@[simp, simp ↓] theorem bu34 {ps : Array (Nat × Operand)} : Ok (Hl.step call Try.prog ⟨d, .build 34 ps, t, p, a, g⟩ ρ h) Q ↔ ps.toList.any (fun p => (ρ p.2).isU) = false ∧ Ok (pureOp.fillF [(0, 1, false), (1, 1, false), (2, 1, false), (3, 1, false)] [.int .i64 0, .int .i64 0, .int .u32 0, .nils] (ps.toList.map fun p => (p.1, ρ p.2))) fun l => Q (.agg l, h) := do_build' ti34
@[simp, simp ↓] theorem bu49 {ps : Array (Nat × Operand)} : Ok (Hl.step call Try.prog ⟨d, .build 49 ps, t, p, a, g⟩ ρ h) Q ↔ ps.toList.any (fun p => (ρ p.2).isU) = false ∧ Ok (pureOp.fillF [(0, 1, false), (1, 1, false), (2, 1, false), (3, 1, false), (4, 1, false), (5, 1, false), (6, 1, false), (7, 1, false), (8, 1, false), (9, 1, false), (10, 1, false), (11, 1, false), (12, 1, false), (13, 1, false), (14, 1, false)] [.int .i64 0, .int .i64 0, .int .u32 0, .int .i64 0, .int .i64 0, .int .u32 0, .str [], .int .u32 0, .int .u32 0, .int .i64 0, .int .i64 0, .nils, .nils, .nils, .nils] (ps.toList.map fun p => (p.1, ρ p.2))) fun l => Q (.agg l, h) := do_build' ti49
@[simp, simp ↓] theorem bu61 {ps : Array (Nat × Operand)} : Ok (Hl.step call Try.prog ⟨d, .build 61 ps, t, p, a, g⟩ ρ h) Q ↔ ps.toList.any (fun p => (ρ p.2).isU) = false ∧ Ok (pureOp.fillF [(0, 1, false), (1, 1, false), (2, 1, false), (3, 18, true), (21, 1, false)] [.int .i64 0, .int .i64 0, .int .i64 0, .int .i64 0, .int .i64 0, .int .i64 0, .int .i64 0, .int .i64 0, .int .i64 0, .int .i64 0, .int .i64 0, .int .i64 0, .int .i64 0, .int .i64 0, .int .i64 0, .int .i64 0, .int .i64 0, .int .i64 0, .int .i64 0, .int .i64 0, .int .i64 0, .int .i64 0] (ps.toList.map fun p => (p.1, ρ p.2))) fun l => Q (.agg l, h) := do_build' ti61
@[simp, simp ↓] theorem bu66 {ps : Array (Nat × Operand)} : Ok (Hl.step call Try.prog ⟨d, .build 66 ps, t, p, a, g⟩ ρ h) Q ↔ ps.toList.any (fun p => (ρ p.2).isU) = false ∧ Ok (pureOp.fillF [(0, 1, false), (1, 1, false), (2, 1, false)] [.int .u32 0, .int .u32 0, .str []] (ps.toList.map fun p => (p.1, ρ p.2))) fun l => Q (.agg l, h) := do_build' ti66
@[simp, simp ↓] theorem bu87 {ps : Array (Nat × Operand)} : Ok (Hl.step call Try.prog ⟨d, .build 87 ps, t, p, a, g⟩ ρ h) Q ↔ ps.toList.any (fun p => (ρ p.2).isU) = false ∧ Ok (pureOp.fillF [(0, 1, false), (1, 1, false)] [.str [], .int .i64 0] (ps.toList.map fun p => (p.1, ρ p.2))) fun l => Q (.agg l, h) := do_build' ti87
@[simp, simp ↓] theorem bu95 {ps : Array (Nat × Operand)} : Ok (Hl.step call Try.prog ⟨d, .build 95 ps, t, p, a, g⟩ ρ h) Q ↔ ps.toList.any (fun p => (ρ p.2).isU) = false ∧ Ok (pureOp.fillF [(0, 1, false), (1, 1, false)] [.int .i64 0, .str []] (ps.toList.map fun p => (p.1, ρ p.2))) fun l => Q (.agg l, h) := do_build' ti95
@[simp, simp ↓] theorem bu97 {ps : Array (Nat × Operand)} : Ok (Hl.step call Try.prog ⟨d, .build 97 ps, t, p, a, g⟩ ρ h) Q ↔ ps.toList.any (fun p => (ρ p.2).isU) = false ∧ Ok (pureOp.fillF [(0, 1, false), (1, 1, false)] [.int .i64 0, .str []] (ps.toList.map fun p => (p.1, ρ p.2))) fun l => Q (.agg l, h) := do_build' ti97
@[simp, simp ↓] theorem bu99 {ps : Array (Nat × Operand)} : Ok (Hl.step call Try.prog ⟨d, .build 99 ps, t, p, a, g⟩ ρ h) Q ↔ ps.toList.any (fun p => (ρ p.2).isU) = false ∧ Ok (pureOp.fillF [(0, 1, false), (1, 1, false)] [.int .i64 0, .int .i64 0] (ps.toList.map fun p => (p.1, ρ p.2))) fun l => Q (.agg l, h) := do_build' ti99
@[simp, simp ↓] theorem bu104 {ps : Array (Nat × Operand)} : Ok (Hl.step call Try.prog ⟨d, .build 104 ps, t, p, a, g⟩ ρ h) Q ↔ ps.toList.any (fun p => (ρ p.2).isU) = false ∧ Ok (pureOp.fillF [(0, 1, false), (1, 1, false)] [.str [], .int .i64 0] (ps.toList.map fun p => (p.1, ρ p.2))) fun l => Q (.agg l, h) := do_build' ti104
@[simp, simp ↓] theorem bu118 {ps : Array (Nat × Operand)} : Ok (Hl.step call Try.prog ⟨d, .build 118 ps, t, p, a, g⟩ ρ h) Q ↔ ps.toList.any (fun p => (ρ p.2).isU) = false ∧ Ok (pureOp.fillF [(0, 1, false), (1, 1, false)] [.int .i64 0, .str []] (ps.toList.map fun p => (p.1, ρ p.2))) fun l => Q (.agg l, h) := do_build' ti118
@[simp, simp ↓] theorem bs30 {n : Nat} {ps : Array (Nat × Operand)} : Ok (Hl.step call Try.prog ⟨d, .buildSlice 30 n ps, t, p, a, g⟩ ρ h) Q ↔ (ps.toList.any (fun p => (ρ p.2).isU) = false ∧ n * 1 ≤ 16777216) ∧ Ok (pureOp.fillA n 1 (zeros [.int .u8 0] n) (ps.toList.map fun p => (p.1, ρ p.2))) fun cells => cells.all V.cellOk = true ∧ Q (.sl h.size 0 n 0 1 false, h.new cells) := (do_buildSlice' ti30 ti5).trans (by simp)
@[simp, simp ↓] theorem bs32 {n : Nat} {ps : Array (Nat × Operand)} : Ok (Hl.step call Try.prog ⟨d, .buildSlice 32 n ps, t, p, a, g⟩ ρ h) Q ↔ (ps.toList.any (fun p => (ρ p.2).isU) = false ∧ n * 15 ≤ 16777216) ∧ Ok (pureOp.fillA n 15 (zeros [.int .i64 0, .int .i64 0, .int .u32 0, .int .i64 0, .int .i64 0, .int .u32 0, .str [], .int .u32 0, .int .u32 0, .int .i64 0, .int .i64 0, .nils, .nils, .nils, .nils] n) (ps.toList.map fun p => (p.1, ρ p.2))) fun cells => cells.all V.cellOk = true ∧ Q (.sl h.size 0 n 0 15 false, h.new cells) := (do_buildSlice' ti32 ti49).trans (by simp)
@[simp, simp ↓] theorem bs44 {n : Nat} {ps : Array (Nat × Operand)} : Ok (Hl.step call Try.prog ⟨d, .buildSlice 44 n ps, t, p, a, g⟩ ρ h) Q ↔ (ps.toList.any (fun p => (ρ p.2).isU) = false ∧ n * 2 ≤ 16777216) ∧ Ok (pureOp.fillA n 2 (zeros [.int .i64 0, .str []] n) (ps.toList.map fun p => (p.1, ρ p.2))) fun cells => cells.all V.cellOk = true ∧ Q (.sl h.size 0 n 0 2 false, h.new cells) := (do_buildSlice' ti44 ti95).trans (by simp)
@[simp, simp ↓] theorem bs45 {n : Nat} {ps : Array (Nat × Operand)} : Ok (Hl.step call Try.prog ⟨d, .buildSlice 45 n ps, t, p, a, g⟩ ρ h) Q ↔ (ps.toList.any (fun p => (ρ p.2).isU) = false ∧ n * 2 ≤ 16777216) ∧ Ok (pureOp.fillA n 2 (zeros [.int .i64 0, .str []] n) (ps.toList.map fun p => (p.1, ρ p.2))) fun cells => cells.all V.cellOk = true ∧ Q (.sl h.size 0 n 0 2 false, h.new cells) := (do_buildSlice' ti45 ti97).trans (by simp)
@[simp, simp ↓] theorem bs46 {n : Nat} {ps : Array (Nat × Operand)} : Ok (Hl.step call Try.prog ⟨d, .buildSlice 46 n ps, t, p, a, g⟩ ρ h) Q ↔ (ps.toList.any (fun p => (ρ p.2).isU) = false ∧ n * 2 ≤ 16777216) ∧ Ok (pureOp.fillA n 2 (zeros [.int .i64 0, .int .i64 0] n) (ps.toList.map fun p => (p.1, ρ p.2))) fun cells => cells.all V.cellOk = true ∧ Q (.sl h.size 0 n 0 2 false, h.new cells) := (do_buildSlice' ti46 ti99).trans (by simp)
@[simp, simp ↓] theorem bs47 {n : Nat} {ps : Array (Nat × Operand)} : Ok (Hl.step call Try.prog ⟨d, .buildSlice 47 n ps, t, p, a, g⟩ ρ h) Q ↔ (ps.toList.any (fun p => (ρ p.2).isU) = false ∧ n * 1 ≤ 16777216) ∧ Ok (pureOp.fillA n 1 (zeros [.int .u32 0] n) (ps.toList.map fun p => (p.1, ρ p.2))) fun cells => cells.all V.cellOk = true ∧ Q (.sl h.size 0 n 0 1 false, h.new cells) := (do_buildSlice' ti47 ti23).trans (by simp)
@[simp, simp ↓] theorem bs67 {n : Nat} {ps : Array (Nat × Operand)} : Ok (Hl.step call Try.prog ⟨d, .buildSlice 67 n ps, t, p, a, g⟩ ρ h) Q ↔ (ps.toList.any (fun p => (ρ p.2).isU) = false ∧ n * 3 ≤ 16777216) ∧ Ok (pureOp.fillA n 3 (zeros [.int .u32 0, .int .u32 0, .str []] n) (ps.toList.map fun p => (p.1, ρ p.2))) fun cells => cells.all V.cellOk = true ∧ Q (.sl h.size 0 n 0 3 false, h.new cells) := (do_buildSlice' ti67 ti66).trans (by simp)
@[simp, simp ↓] theorem bs100 {n : Nat} {ps : Array (Nat × Operand)} : Ok (Hl.step call Try.prog ⟨d, .buildSlice 100 n ps, t, p, a, g⟩ ρ h) Q ↔ (ps.toList.any (fun p => (ρ p.2).isU) = false ∧ n * 1 ≤ 16777216) ∧ Ok (pureOp.fillA n 1 (zeros [.int .i64 0] n) (ps.toList.map fun p => (p.1, ρ p.2))) fun cells => cells.all V.cellOk = true ∧ Q (.sl h.size 0 n 0 1 false, h.new cells) := (do_buildSlice' ti100 ti3).trans (by simp)
@[simp, simp ↓] theorem bs114 {n : Nat} {ps : Array (Nat × Operand)} : Ok (Hl.step call Try.prog ⟨d, .buildSlice 114 n ps, t, p, a, g⟩ ρ h) Q ↔ (ps.toList.any (fun p => (ρ p.2).isU) = false ∧ n * 2 ≤ 16777216) ∧ Ok (pureOp.fillA n 2 (zeros [.int .i64 0, .str []] n) (ps.toList.map fun p => (p.1, ρ p.2))) fun cells => cells.all V.cellOk = true ∧ Q (.sl h.size 0 n 0 2 false, h.new cells) := (do_buildSlice' ti114 ti118).trans (by simp)
@[simp, simp ↓] theorem cv3_5 : Ok (Hl.step call Try.prog ⟨d, .convert 3 5 x, t, p, a, g⟩ ρ h) Q ↔ Ok (convV .u8 (ρ x)) fun v => Q (v, h) := do_conv' Try.underlying3 Try.underlying5
@[simp, simp ↓] theorem cv3_29 : Ok (Hl.step call Try.prog ⟨d, .convert 3 29 x, t, p, a, g⟩ ρ h) Q ↔ Ok (convV .u64 (ρ x)) fun v => Q (v, h) := do_conv' Try.underlying3 Try.underlying29
@[simp, simp ↓] theorem cv3_76 : Ok (Hl.step call Try.prog ⟨d, .convert 3 76 x, t, p, a, g⟩ ρ h) Q ↔ Ok (convV .u64 (ρ x)) fun v => Q (v, h) := do_conv' Try.underlying3 Try.underlying76
@[simp, simp ↓] theorem cv5_23 : Ok (Hl.step call Try.prog ⟨d, .convert 5 23 x, t, p, a, g⟩ ρ h) Q ↔ Ok (convV .u32 (ρ x)) fun v => Q (v, h) := do_conv' Try.underlying5 Try.underlying23
@[simp, simp ↓] theorem cv5_76 : Ok (Hl.step call Try.prog ⟨d, .convert 5 76 x, t, p, a, g⟩ ρ h) Q ↔ Ok (convV .u64 (ρ x)) fun v => Q (v, h) := do_conv' Try.underlying5 Try.underlying76
@[simp, simp ↓] theorem cv9_30 : Ok (Hl.step call Try.prog ⟨d, .convert 9 30 x, t, p, a, g⟩ ρ h) Q ↔ Ok (strBytesV h (ρ x)) Q := do_strBytes Try.underlying9 Try.underlying30 ti30 Try.underlying5
@[simp, simp ↓] theorem cv23_3 : Ok (Hl.step call Try.prog ⟨d, .convert 23 3 x, t, p, a, g⟩ ρ h) Q ↔ Ok (convV .i64 (ρ x)) fun v => Q (v, h) := do_conv' Try.underlying23 Try.underlying3
@[simp, simp ↓] theorem cv23_5 : Ok (Hl.step call Try.prog ⟨d, .convert 23 5 x, t, p, a, g⟩ ρ h) Q ↔ Ok (convV .u8 (ρ x)) fun v => Q (v, h) := do_conv' Try.underlying23 Try.underlying5
@[simp, simp ↓] theorem cv23_76 : Ok (Hl.step call Try.prog ⟨d, .convert 23 76 x, t, p, a, g⟩ ρ h) Q ↔ Ok (convV .u64 (ρ x)) fun v => Q (v, h) := do_conv' Try.underlying23 Try.underlying76
@[simp, simp ↓] theorem cv30_9 : Ok (Hl.step call Try.prog ⟨d, .convert 30 9 x, t, p, a, g⟩ ρ h) Q ↔ Ok (bytesStrV h (ρ x)) fun v => Q (v, h) := do_bytesStr Try.underlying30 Try.underlying9 Try.underlying5
@[simp, simp ↓] theorem rb30_9 {Q : V → Prop} : Ok (readOp Try.prog (.convert 30 9 x) ρ h) Q ↔ Ok (bytesStrV h (ρ x)) Q := readOp_bytes Try.underlying30 Try.underlying9 Try.underlying5
@[simp, simp ↓] theorem cv76_3 : Ok (Hl.step call Try.prog ⟨d, .convert 76 3 x, t, p, a, g⟩ ρ h) Q ↔ Ok (convV .i64 (ρ x)) fun v => Q (v, h) := do_conv' Try.underlying76 Try.underlying3
@[simp, simp ↓] theorem cv76_5 : Ok (Hl.step call Try.prog ⟨d, .convert 76 5 x, t, p, a, g⟩ ρ h) Q ↔ Ok (convV .u8 (ρ x)) fun v => Q (v, h) := do_conv' Try.underlying76 Try.underlying5
@[simp, simp ↓] theorem cv76_23 : Ok (Hl.step call Try.prog ⟨d, .convert 76 23 x, t, p, a, g⟩ ρ h) Q ↔ Ok (convV .u32 (ρ x)) fun v => Q (v, h) := do_conv' Try.underlying76 Try.underlying23
@[simp, simp ↓] theorem ap32_32 : Ok (Hl.step call Try.prog ⟨d, .call { callee := .builtin .append, args := #[x, y], argTypes := #[32, 32] }, t, p, a, g⟩ ρ h) Q ↔ Ok (appendV 15 184 h (ρ x) (ρ y)) Q := do_append' ti32 ti49 Try.underlying32 rfl rfl
@[simp, simp ↓] theorem ap44_44 : Ok (Hl.step call Try.prog ⟨d, .call { callee := .builtin .append, args := #[x, y], argTypes := #[44, 44] }, t, p, a, g⟩ ρ h) Q ↔ Ok (appendV 2 24 h (ρ x) (ρ y)) Q := do_append' ti44 ti95 Try.underlying44 rfl rfl
@[simp, simp ↓] theorem ap45_45 : Ok (Hl.step call Try.prog ⟨d, .call { callee := .builtin .append, args := #[x, y], argTypes := #[45, 45] }, t, p, a, g⟩ ρ h) Q ↔ Ok (appendV 2 24 h (ρ x) (ρ y)) Q := do_append' ti45 ti97 Try.underlying45 rfl rfl
@[simp, simp ↓] theorem ap46_46 : Ok (Hl.step call Try.prog ⟨d, .call { callee := .builtin .append, args := #[x, y], argTypes := #[46, 46] }, t, p, a, g⟩ ρ h) Q ↔ Ok (appendV 2 16 h (ρ x) (ρ y)) Q := do_append' ti46 ti99 Try.underlying46 rfl rfl
@[simp, simp ↓] theorem ap47_47 : Ok (Hl.step call Try.prog ⟨d, .call { callee := .builtin .append, args := #[x, y], argTypes := #[47, 47] }, t, p, a, g⟩ ρ h) Q ↔ Ok (appendV 1 4 h (ρ x) (ρ y)) Q := do_append' ti47 ti23 Try.underlying47 rfl rfl
@[simp, simp ↓] theorem ap67_67 : Ok (Hl.step call Try.prog ⟨d, .call { callee := .builtin .append, args := #[x, y], argTypes := #[67, 67] }, t, p, a, g⟩ ρ h) Q ↔ Ok (appendV 3 24 h (ρ x) (ρ y)) Q := do_append' ti67 ti66 Try.underlying67 rfl rfl
@[simp, simp ↓] theorem ap114_114 : Ok (Hl.step call Try.prog ⟨d, .call { callee := .builtin .append, args := #[x, y], argTypes := #[114, 114] }, t, p, a, g⟩ ρ h) Q ↔ Ok (appendV 2 24 h (ρ x) (ρ y)) Q := do_append' ti114 ti118 Try.underlying114 rfl rfl
end
@[simp] theorem le9 {s : List UInt8} : lenOp Try.prog 9 (.str s) = some (.int .i64 s.length) := len_str Try.underlying9
@[simp] theorem le30 {b o n v z : Nat} {m : Bool} : lenOp Try.prog 30 (.sl b o n v z m) = some (.int .i64 n) := len_sl Try.underlying30
@[simp] theorem len30 : lenOp Try.prog 30 .nils = some (.int .i64 0) := len_nils Try.underlying30
@[simp] theorem le32 {b o n v z : Nat} {m : Bool} : lenOp Try.prog 32 (.sl b o n v z m) = some (.int .i64 n) := len_sl Try.underlying32
@[simp] theorem len32 : lenOp Try.prog 32 .nils = some (.int .i64 0) := len_nils Try.underlying32
@[simp] theorem le44 {b o n v z : Nat} {m : Bool} : lenOp Try.prog 44 (.sl b o n v z m) = some (.int .i64 n) := len_sl Try.underlying44
@[simp] theorem len44 : lenOp Try.prog 44 .nils = some (.int .i64 0) := len_nils Try.underlying44
@[simp] theorem le45 {b o n v z : Nat} {m : Bool} : lenOp Try.prog 45 (.sl b o n v z m) = some (.int .i64 n) := len_sl Try.underlying45
@[simp] theorem len45 : lenOp Try.prog 45 .nils = some (.int .i64 0) := len_nils Try.underlying45
@[simp] theorem le46 {b o n v z : Nat} {m : Bool} : lenOp Try.prog 46 (.sl b o n v z m) = some (.int .i64 n) := len_sl Try.underlying46
@[simp] theorem len46 : lenOp Try.prog 46 .nils = some (.int .i64 0) := len_nils Try.underlying46
@[simp] theorem le47 {b o n v z : Nat} {m : Bool} : lenOp Try.prog 47 (.sl b o n v z m) = some (.int .i64 n) := len_sl Try.underlying47
@[simp] theorem len47 : lenOp Try.prog 47 .nils = some (.int .i64 0) := len_nils Try.underlying47
@[simp] theorem le63 {b o n v z : Nat} {m : Bool} : lenOp Try.prog 63 (.sl b o n v z m) = some (.int .i64 n) := len_sl Try.underlying63
@[simp] theorem len63 : lenOp Try.prog 63 .nils = some (.int .i64 0) := len_nils Try.underlying63
@[simp] theorem le67 {b o n v z : Nat} {m : Bool} : lenOp Try.prog 67 (.sl b o n v z m) = some (.int .i64 n) := len_sl Try.underlying67
@[simp] theorem len67 : lenOp Try.prog 67 .nils = some (.int .i64 0) := len_nils Try.underlying67
@[simp] theorem le100 {b o n v z : Nat} {m : Bool} : lenOp Try.prog 100 (.sl b o n v z m) = some (.int .i64 n) := len_sl Try.underlying100
@[simp] theorem len100 : lenOp Try.prog 100 .nils = some (.int .i64 0) := len_nils Try.underlying100
@[simp] theorem le114 {b o n v z : Nat} {m : Bool} : lenOp Try.prog 114 (.sl b o n v z m) = some (.int .i64 n) := len_sl Try.underlying114
@[simp] theorem len114 : lenOp Try.prog 114 .nils = some (.int .i64 0) := len_nils Try.underlying114
@[simp] theorem bbeql4 {x y : Bool} : binV Try.prog .eql 4 (.bool x) (.bool y) = some (.bool (decide (x = y))) := bin_eql_bool Try.underlying4
@[simp] theorem bpeql79_232 {b o v z : Nat} : binV Try.prog .eql 79 .nilp .nilp = some (.bool true) := by simp [binV, eqOp, Try.underlying79]
@[simp] theorem bpeql79_233 {b o v z : Nat} : binV Try.prog .eql 79 .nilp (.ptr b o v z) = some (.bool false) := by simp [binV, eqOp, Try.underlying79]
@[simp] theorem bpeql79_234 {b o v z : Nat} : binV Try.prog .eql 79 (.ptr b o v z) .nilp = some (.bool false) := by simp [binV, eqOp, Try.underlying79]
@[simp] theorem bpneq79_235 {b o v z : Nat} : binV Try.prog .neq 79 .nilp .nilp = some (.bool false) := by simp [binV, eqOp, Try.underlying79]
@[simp] theorem bpneq79_236 {b o v z : Nat} : binV Try.prog .neq 79 .nilp (.ptr b o v z) = some (.bool true) := by simp [binV, eqOp, Try.underlying79]
@[simp] theorem bpneq79_237 {b o v z : Nat} : binV Try.prog .neq 79 (.ptr b o v z) .nilp = some (.bool true) := by simp [binV, eqOp, Try.underlying79]
end Go.Proofs.Ytbncfiijlnakkaa
end
section
/-! The law MeasureSlots: its function gives true. -/
namespace Go.Proofs.Ytbncfiijlnakkaa
open Go.Hl
def tally0 : List V := List.replicate 22 (.int .i64 0)
theorem share0 : Does Try.prog (fun _ _ _ => none) 36 [.agg tally0] ⟨[], []⟩ = some (.int .i64 0, ⟨[], []⟩) := of_isInt0 (k := 30) (n := 0) (by kernel_rfl)
theorem measureSlots_eq (x : Int) : Does Try.prog (fun _ _ _ => none) 11 [.int .i64 x] ⟨[], []⟩ = some (.bool true, ⟨[], []⟩) := by
  refine Does_eq (n := 19) (rs := [.tmp 2]) Try.func11 (by kernel_rfl) rfl rfl rfl (by simp) fun σ hg => ?_
  obtain ⟨n, hn, hb⟩ := and_255 x
  obtain ⟨a, h1, h2⟩ := of_sameInt (slot_all n hn)
  have h3 := share0
  rw [show tally0 = [.int .i64 0, .int .i64 0, .int .i64 0, .int .i64 0, .int .i64 0, .int .i64 0, .int .i64 0, .int .i64 0, .int .i64 0, .int .i64 0, .int .i64 0, .int .i64 0, .int .i64 0, .int .i64 0, .int .i64 0, .int .i64 0, .int .i64 0, .int .i64 0, .int .i64 0, .int .i64 0, .int .i64 0, .int .i64 0] from rfl] at h3
  simp (dsimp := false) [hg, ofVal, ofCell, hb, awake41, h1, h2, h3]
theorem measureSlots_law (x : Int) (_ : (Lit.int .i64 x).wf = true) : ∃ h', Does Try.prog (fun _ _ _ => none) 11 [.int .i64 x] ⟨[], []⟩ = some (.bool true, h') := ⟨_, measureSlots_eq x⟩
end Go.Proofs.Ytbncfiijlnakkaa
end
section
/-! Hl: from what a law's function does to its walk. -/
namespace Go.Hl
open Go.RowKit

theorem walk_of {P : Program} {C : CallT} (hmix : P.follows .mixedOrders = true) (hC : CallsOk C P) (hG : ∀ f args h v h', C f args h = some (v, h') → Grows h h') {f : FuncId} {args : List V} {h' : H} (hc : Does P C f args ⟨[], []⟩ = some (.bool true, h')) (w : World) (args' : List Value)
    (hargs : RelVs (fun _ _ => ⟨0, 0, 0, 0, 0⟩) ⟨[], []⟩ args args') : Calls P f args'.toArray w fun e w' => e = .returned (.bool true) ∧ Below w.heap.size w w' := by
  have hrel : Rel (fun _ _ => ⟨0, 0, 0, 0, 0⟩) w.heap.size ⟨[], []⟩ w :=
    ⟨fun b k hk => by simp at hk, fun b b' k k' hk => by simp at hk, Nat.le_refl _, fun b k hk => by simp at hk⟩
  refine ((Does_ok hmix hC hG f args _ _ _ hc).2 _ _ w args' hargs hrel).mono ?_
  rintro e w' ⟨v', ι', rfl, hv, _, _, hb⟩
  simp only [RelV] at hv
  exact ⟨by rw [hv], hb⟩
theorem noneOk {P : Program} : CallsOk (fun _ _ _ => none) P := fun f args h v h' hc => by cases hc
theorem walk_pure {P : Program} (hmix : P.follows .mixedOrders = true) {f : FuncId} {args : List V} {h' : H} (hc : Does P (fun _ _ _ => none) f args ⟨[], []⟩ = some (.bool true, h')) (w : World) (args' : List Value)
    (hargs : RelVs (fun _ _ => ⟨0, 0, 0, 0, 0⟩) ⟨[], []⟩ args args') : Calls P f args'.toArray w fun e w' => e = .returned (.bool true) ∧ Below w.heap.size w w' :=
  walk_of hmix noneOk (fun f args h v h' hc => by cases hc) hc w args' hargs
theorem rel_str {ι : Map} {h : H} (a : ByteArray) : RelV ι h (.str a.data.toList) (.string a) := by simp [RelV]
theorem rel_int {ι : Map} {h : H} (k : IntKind) (n : Int) : RelV ι h (.int k n) (.int k n) := by simp [RelV]
theorem rel_bool {ι : Map} {h : H} (b : Bool) : RelV ι h (.bool b) (.bool b) := by simp [RelV]
theorem rel_nil {ι : Map} {h : H} : RelVs ι h [] [] := by simp [RelVs]
theorem rel_cons {ι : Map} {h : H} {u : V} {v : Value} {l : List V} {m : List Value} (a : RelV ι h u v) (b : RelVs ι h l m) : RelVs ι h (u :: l) (v :: m) := by
  simp only [RelVs]
  exact ⟨a, b⟩
end Go.Hl
end
