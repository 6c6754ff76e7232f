/- PRINTED by wip/gentypes.py: closed facts on types. -/
import Derived.Test.YtbjakblkppnieaaL
import Derived.Test.YtbjakblkppnieaaChecked
set_option linter.unusedVariables false
set_option linter.unusedSimpArgs false
namespace Go.Proofs.Ytbjakblkppnieaa
open Go Vc
section
variable {K : Value → Prop} {K2 : Value → World → Prop} {KU : World → Prop} {w : World}

theorem sz3 : sizeT Try.prog 3 = some 1 := by kernel_rfl
theorem sh3 : shapeT Try.prog 3 = some none := by kernel_rfl
@[go_sem ↓] theorem ld3 (b o : Nat) : loadO Try.prog 3 (ptr b o) w = w.cell? ⟨b, o, none⟩ := load1 sh3 b o
@[go_sem ↓] theorem st3 (b o : Nat) (x1 : Int) : storeO Try.prog 3 (ptr b o) (.int .i64 x1) w = storeL w ⟨b, o, none⟩ 0 [(.int .i64 x1)] := storeO_eq sz3 b o _ rfl
@[go_sem ↓] theorem sn3 (n : Nat) (z0 : Value) (x1 : Int) (hn : n = w.heap.size) : storeL (w.alloc (.cells #[z0] 3)) ⟨n, 0, none⟩ 0 [(.int .i64 x1)] = some (w.alloc (.cells #[(.int .i64 x1)] 3)) := by subst hn; exact storeL_new [z0] [(.int .i64 x1)] 3 rfl (by simp [Value.oneCell'])
theorem sz4 : sizeT Try.prog 4 = some 1 := by kernel_rfl
theorem sh4 : shapeT Try.prog 4 = some none := by kernel_rfl
@[go_sem ↓] theorem ld4 (b o : Nat) : loadO Try.prog 4 (ptr b o) w = w.cell? ⟨b, o, none⟩ := load1 sh4 b o
@[go_sem ↓] theorem st4 (b o : Nat) (x1 : Bool) : storeO Try.prog 4 (ptr b o) (.bool x1) w = storeL w ⟨b, o, none⟩ 0 [(.bool x1)] := storeO_eq sz4 b o _ rfl
@[go_sem ↓] theorem sn4 (n : Nat) (z0 : Value) (x1 : Bool) (hn : n = w.heap.size) : storeL (w.alloc (.cells #[z0] 4)) ⟨n, 0, none⟩ 0 [(.bool x1)] = some (w.alloc (.cells #[(.bool x1)] 4)) := by subst hn; exact storeL_new [z0] [(.bool x1)] 4 rfl (by simp [Value.oneCell'])
theorem sz9 : sizeT Try.prog 9 = some 1 := by kernel_rfl
theorem sh9 : shapeT Try.prog 9 = some none := by kernel_rfl
@[go_sem ↓] theorem ld9 (b o : Nat) : loadO Try.prog 9 (ptr b o) w = w.cell? ⟨b, o, none⟩ := load1 sh9 b o
@[go_sem ↓] theorem st9 (b o : Nat) (x1 : ByteArray) : storeO Try.prog 9 (ptr b o) (.string x1) w = storeL w ⟨b, o, none⟩ 0 [(.string x1)] := storeO_eq sz9 b o _ rfl
@[go_sem ↓] theorem sn9 (n : Nat) (z0 : Value) (x1 : ByteArray) (hn : n = w.heap.size) : storeL (w.alloc (.cells #[z0] 9)) ⟨n, 0, none⟩ 0 [(.string x1)] = some (w.alloc (.cells #[(.string x1)] 9)) := by subst hn; exact storeL_new [z0] [(.string x1)] 9 rfl (by simp [Value.oneCell'])
theorem sz26 : sizeT Try.prog 26 = some 1 := by kernel_rfl
theorem sh26 : shapeT Try.prog 26 = some none := by kernel_rfl
@[go_sem ↓] theorem ld26 (b o : Nat) : loadO Try.prog 26 (ptr b o) w = w.cell? ⟨b, o, none⟩ := load1 sh26 b o
@[go_sem ↓] theorem st26 (b o : Nat) (x1 : Option Addr) (x1n x1c : Nat) : storeO Try.prog 26 (ptr b o) (.slice x1 x1n x1c) w = storeL w ⟨b, o, none⟩ 0 [(.slice x1 x1n x1c)] := storeO_eq sz26 b o _ rfl
@[go_sem ↓] theorem sn26 (n : Nat) (z0 : Value) (x1 : Option Addr) (x1n x1c : Nat) (hn : n = w.heap.size) : storeL (w.alloc (.cells #[z0] 26)) ⟨n, 0, none⟩ 0 [(.slice x1 x1n x1c)] = some (w.alloc (.cells #[(.slice x1 x1n x1c)] 26)) := by subst hn; exact storeL_new [z0] [(.slice x1 x1n x1c)] 26 rfl (by simp [Value.oneCell'])
theorem sz28 : sizeT Try.prog 28 = some 1 := by kernel_rfl
theorem sh28 : shapeT Try.prog 28 = some (some 1) := by kernel_rfl
@[go_sem ↓] theorem ld28 (b o : Nat) : loadO Try.prog 28 (ptr b o) w = ((w.cell? ⟨b, o, none⟩).bind fun c0 => some (.agg #[c0])) := by
  rw [loadN sh28]
  simp only [cells_succ, cells_zero, Nat.zero_add, Nat.add_zero, Nat.reduceAdd, Option.map_some, Option.map_bind, Function.comp_def, Option.bind_map]
  try rfl
@[go_sem ↓] theorem st28 (b o : Nat) (x1 : Option Addr) (x1n x1c : Nat) : storeO Try.prog 28 (ptr b o) (.agg #[(.slice x1 x1n x1c)]) w = storeL w ⟨b, o, none⟩ 0 [(.slice x1 x1n x1c)] := storeO_eq sz28 b o _ rfl
@[go_sem ↓] theorem sn28 (n : Nat) (z0 : Value) (x1 : Option Addr) (x1n x1c : Nat) (hn : n = w.heap.size) : storeL (w.alloc (.cells #[z0] 28)) ⟨n, 0, none⟩ 0 [(.slice x1 x1n x1c)] = some (w.alloc (.cells #[(.slice x1 x1n x1c)] 28)) := by subst hn; exact storeL_new [z0] [(.slice x1 x1n x1c)] 28 rfl (by simp [Value.oneCell'])
theorem sz30 : sizeT Try.prog 30 = some 5 := by kernel_rfl
theorem sh30 : shapeT Try.prog 30 = some (some 5) := by kernel_rfl
@[go_sem ↓] theorem ld30 (b o : Nat) : loadO Try.prog 30 (ptr b o) w = ((w.cell? ⟨b, o, none⟩).bind fun c0 => (w.cell? ⟨b, o + 1, none⟩).bind fun c1 => (w.cell? ⟨b, o + 2, none⟩).bind fun c2 => (w.cell? ⟨b, o + 3, none⟩).bind fun c3 => (w.cell? ⟨b, o + 4, none⟩).bind fun c4 => some (.agg #[c0, c1, c2, c3, c4])) := by
  rw [loadN sh30]
  simp only [cells_succ, cells_zero, Nat.zero_add, Nat.add_zero, Nat.reduceAdd, Option.map_some, Option.map_bind, Function.comp_def, Option.bind_map]
  try rfl
@[go_sem ↓] theorem st30 (b o : Nat) (x1 : Int) (x2 : ByteArray) (x3 : Int) (x4 : ByteArray) (x5 : Bool) : storeO Try.prog 30 (ptr b o) (.agg #[(.int .i64 x1), (.string x2), (.int .i64 x3), (.string x4), (.bool x5)]) w = storeL w ⟨b, o, none⟩ 0 [(.int .i64 x1), (.string x2), (.int .i64 x3), (.string x4), (.bool x5)] := storeO_eq sz30 b o _ rfl
@[go_sem ↓] theorem sn30 (n : Nat) (z0 z1 z2 z3 z4 : Value) (x1 : Int) (x2 : ByteArray) (x3 : Int) (x4 : ByteArray) (x5 : Bool) (hn : n = w.heap.size) : storeL (w.alloc (.cells #[z0, z1, z2, z3, z4] 30)) ⟨n, 0, none⟩ 0 [(.int .i64 x1), (.string x2), (.int .i64 x3), (.string x4), (.bool x5)] = some (w.alloc (.cells #[(.int .i64 x1), (.string x2), (.int .i64 x3), (.string x4), (.bool x5)] 30)) := by subst hn; exact storeL_new [z0, z1, z2, z3, z4] [(.int .i64 x1), (.string x2), (.int .i64 x3), (.string x4), (.bool x5)] 30 rfl (by simp [Value.oneCell'])
theorem sz34 : sizeT Try.prog 34 = some 1 := by kernel_rfl
theorem sh34 : shapeT Try.prog 34 = some none := by kernel_rfl
@[go_sem ↓] theorem ld34 (b o : Nat) : loadO Try.prog 34 (ptr b o) w = w.cell? ⟨b, o, none⟩ := load1 sh34 b o
@[go_sem ↓] theorem st34 (b o : Nat) (x1 : Option Addr) (x1n x1c : Nat) : storeO Try.prog 34 (ptr b o) (.slice x1 x1n x1c) w = storeL w ⟨b, o, none⟩ 0 [(.slice x1 x1n x1c)] := storeO_eq sz34 b o _ rfl
@[go_sem ↓] theorem sn34 (n : Nat) (z0 : Value) (x1 : Option Addr) (x1n x1c : Nat) (hn : n = w.heap.size) : storeL (w.alloc (.cells #[z0] 34)) ⟨n, 0, none⟩ 0 [(.slice x1 x1n x1c)] = some (w.alloc (.cells #[(.slice x1 x1n x1c)] 34)) := by subst hn; exact storeL_new [z0] [(.slice x1 x1n x1c)] 34 rfl (by simp [Value.oneCell'])
theorem sz36 : sizeT Try.prog 36 = some 2 := by kernel_rfl
theorem sh36 : shapeT Try.prog 36 = some (some 2) := by kernel_rfl
@[go_sem ↓] theorem ld36 (b o : Nat) : loadO Try.prog 36 (ptr b o) w = ((w.cell? ⟨b, o, none⟩).bind fun c0 => (w.cell? ⟨b, o + 1, none⟩).bind fun c1 => some (.agg #[c0, c1])) := by
  rw [loadN sh36]
  simp only [cells_succ, cells_zero, Nat.zero_add, Nat.add_zero, Nat.reduceAdd, Option.map_some, Option.map_bind, Function.comp_def, Option.bind_map]
  try rfl
@[go_sem ↓] theorem st36 (b o : Nat) (x1 : ByteArray) (x2 : Option Addr) (x2n x2c : Nat) : storeO Try.prog 36 (ptr b o) (.agg #[(.string x1), (.slice x2 x2n x2c)]) w = storeL w ⟨b, o, none⟩ 0 [(.string x1), (.slice x2 x2n x2c)] := storeO_eq sz36 b o _ rfl
@[go_sem ↓] theorem sn36 (n : Nat) (z0 z1 : Value) (x1 : ByteArray) (x2 : Option Addr) (x2n x2c : Nat) (hn : n = w.heap.size) : storeL (w.alloc (.cells #[z0, z1] 36)) ⟨n, 0, none⟩ 0 [(.string x1), (.slice x2 x2n x2c)] = some (w.alloc (.cells #[(.string x1), (.slice x2 x2n x2c)] 36)) := by subst hn; exact storeL_new [z0, z1] [(.string x1), (.slice x2 x2n x2c)] 36 rfl (by simp [Value.oneCell'])
theorem sz37 : sizeT Try.prog 37 = some 1 := by kernel_rfl
theorem sh37 : shapeT Try.prog 37 = some none := by kernel_rfl
@[go_sem ↓] theorem ld37 (b o : Nat) : loadO Try.prog 37 (ptr b o) w = w.cell? ⟨b, o, none⟩ := load1 sh37 b o
@[go_sem ↓] theorem st37 (b o : Nat) (x1 : Int) : storeO Try.prog 37 (ptr b o) (.int .u64 x1) w = storeL w ⟨b, o, none⟩ 0 [(.int .u64 x1)] := storeO_eq sz37 b o _ rfl
@[go_sem ↓] theorem sn37 (n : Nat) (z0 : Value) (x1 : Int) (hn : n = w.heap.size) : storeL (w.alloc (.cells #[z0] 37)) ⟨n, 0, none⟩ 0 [(.int .u64 x1)] = some (w.alloc (.cells #[(.int .u64 x1)] 37)) := by subst hn; exact storeL_new [z0] [(.int .u64 x1)] 37 rfl (by simp [Value.oneCell'])
theorem sz40 : sizeT Try.prog 40 = some 4 := by kernel_rfl
theorem sh40 : shapeT Try.prog 40 = some (some 4) := by kernel_rfl
@[go_sem ↓] theorem ld40 (b o : Nat) : loadO Try.prog 40 (ptr b o) w = ((w.cell? ⟨b, o, none⟩).bind fun c0 => (w.cell? ⟨b, o + 1, none⟩).bind fun c1 => (w.cell? ⟨b, o + 2, none⟩).bind fun c2 => (w.cell? ⟨b, o + 3, none⟩).bind fun c3 => some (.agg #[c0, c1, c2, c3])) := by
  rw [loadN sh40]
  simp only [cells_succ, cells_zero, Nat.zero_add, Nat.add_zero, Nat.reduceAdd, Option.map_some, Option.map_bind, Function.comp_def, Option.bind_map]
  try rfl
@[go_sem ↓] theorem st40 (b o : Nat) (x1 : Int) (x2 : Int) (x3 : ByteArray) (x4 : Bool) : storeO Try.prog 40 (ptr b o) (.agg #[(.int .i64 x1), (.int .u64 x2), (.string x3), (.bool x4)]) w = storeL w ⟨b, o, none⟩ 0 [(.int .i64 x1), (.int .u64 x2), (.string x3), (.bool x4)] := storeO_eq sz40 b o _ rfl
@[go_sem ↓] theorem sn40 (n : Nat) (z0 z1 z2 z3 : Value) (x1 : Int) (x2 : Int) (x3 : ByteArray) (x4 : Bool) (hn : n = w.heap.size) : storeL (w.alloc (.cells #[z0, z1, z2, z3] 40)) ⟨n, 0, none⟩ 0 [(.int .i64 x1), (.int .u64 x2), (.string x3), (.bool x4)] = some (w.alloc (.cells #[(.int .i64 x1), (.int .u64 x2), (.string x3), (.bool x4)] 40)) := by subst hn; exact storeL_new [z0, z1, z2, z3] [(.int .i64 x1), (.int .u64 x2), (.string x3), (.bool x4)] 40 rfl (by simp [Value.oneCell'])
theorem sz46 : sizeT Try.prog 46 = some 4 := by kernel_rfl
theorem sh46 : shapeT Try.prog 46 = some (some 4) := by kernel_rfl
@[go_sem ↓] theorem ld46 (b o : Nat) : loadO Try.prog 46 (ptr b o) w = ((w.cell? ⟨b, o, none⟩).bind fun c0 => (w.cell? ⟨b, o + 1, none⟩).bind fun c1 => (w.cell? ⟨b, o + 2, none⟩).bind fun c2 => (w.cell? ⟨b, o + 3, none⟩).bind fun c3 => some (.agg #[c0, c1, c2, c3])) := by
  rw [loadN sh46]
  simp only [cells_succ, cells_zero, Nat.zero_add, Nat.add_zero, Nat.reduceAdd, Option.map_some, Option.map_bind, Function.comp_def, Option.bind_map]
  try rfl
@[go_sem ↓] theorem st46 (b o : Nat) (x1 : Int) (x2 : Int) (x3 : ByteArray) (x4 : Bool) : storeO Try.prog 46 (ptr b o) (.agg #[(.int .i64 x1), (.int .u64 x2), (.string x3), (.bool x4)]) w = storeL w ⟨b, o, none⟩ 0 [(.int .i64 x1), (.int .u64 x2), (.string x3), (.bool x4)] := storeO_eq sz46 b o _ rfl
@[go_sem ↓] theorem sn46 (n : Nat) (z0 z1 z2 z3 : Value) (x1 : Int) (x2 : Int) (x3 : ByteArray) (x4 : Bool) (hn : n = w.heap.size) : storeL (w.alloc (.cells #[z0, z1, z2, z3] 46)) ⟨n, 0, none⟩ 0 [(.int .i64 x1), (.int .u64 x2), (.string x3), (.bool x4)] = some (w.alloc (.cells #[(.int .i64 x1), (.int .u64 x2), (.string x3), (.bool x4)] 46)) := by subst hn; exact storeL_new [z0, z1, z2, z3] [(.int .i64 x1), (.int .u64 x2), (.string x3), (.bool x4)] 46 rfl (by simp [Value.oneCell'])
theorem sz65 : sizeT Try.prog 65 = some 1 := by kernel_rfl
theorem sh65 : shapeT Try.prog 65 = some none := by kernel_rfl
@[go_sem ↓] theorem ld65 (b o : Nat) : loadO Try.prog 65 (ptr b o) w = w.cell? ⟨b, o, none⟩ := load1 sh65 b o
@[go_sem ↓] theorem st65 (b o : Nat) (x1 : Option Nat) : storeO Try.prog 65 (ptr b o) (.map x1) w = storeL w ⟨b, o, none⟩ 0 [(.map x1)] := storeO_eq sz65 b o _ rfl
@[go_sem ↓] theorem sn65 (n : Nat) (z0 : Value) (x1 : Option Nat) (hn : n = w.heap.size) : storeL (w.alloc (.cells #[z0] 65)) ⟨n, 0, none⟩ 0 [(.map x1)] = some (w.alloc (.cells #[(.map x1)] 65)) := by subst hn; exact storeL_new [z0] [(.map x1)] 65 rfl (by simp [Value.oneCell'])
theorem sz67 : sizeT Try.prog 67 = some 1 := by kernel_rfl
theorem sh67 : shapeT Try.prog 67 = some (some 1) := by kernel_rfl
@[go_sem ↓] theorem ld67 (b o : Nat) : loadO Try.prog 67 (ptr b o) w = ((w.cell? ⟨b, o, none⟩).bind fun c0 => some (.agg #[c0])) := by
  rw [loadN sh67]
  simp only [cells_succ, cells_zero, Nat.zero_add, Nat.add_zero, Nat.reduceAdd, Option.map_some, Option.map_bind, Function.comp_def, Option.bind_map]
  try rfl
@[go_sem ↓] theorem st67 (b o : Nat) (x1 : Option Nat) : storeO Try.prog 67 (ptr b o) (.agg #[(.map x1)]) w = storeL w ⟨b, o, none⟩ 0 [(.map x1)] := storeO_eq sz67 b o _ rfl
@[go_sem ↓] theorem sn67 (n : Nat) (z0 : Value) (x1 : Option Nat) (hn : n = w.heap.size) : storeL (w.alloc (.cells #[z0] 67)) ⟨n, 0, none⟩ 0 [(.map x1)] = some (w.alloc (.cells #[(.map x1)] 67)) := by subst hn; exact storeL_new [z0] [(.map x1)] 67 rfl (by simp [Value.oneCell'])
theorem sz72 : sizeT Try.prog 72 = some 1 := by kernel_rfl
theorem sh72 : shapeT Try.prog 72 = some none := by kernel_rfl
@[go_sem ↓] theorem ld72 (b o : Nat) : loadO Try.prog 72 (ptr b o) w = w.cell? ⟨b, o, none⟩ := load1 sh72 b o
@[go_sem ↓] theorem st72 (b o : Nat) (x1 : Option Addr) (x1n x1c : Nat) : storeO Try.prog 72 (ptr b o) (.slice x1 x1n x1c) w = storeL w ⟨b, o, none⟩ 0 [(.slice x1 x1n x1c)] := storeO_eq sz72 b o _ rfl
@[go_sem ↓] theorem sn72 (n : Nat) (z0 : Value) (x1 : Option Addr) (x1n x1c : Nat) (hn : n = w.heap.size) : storeL (w.alloc (.cells #[z0] 72)) ⟨n, 0, none⟩ 0 [(.slice x1 x1n x1c)] = some (w.alloc (.cells #[(.slice x1 x1n x1c)] 72)) := by subst hn; exact storeL_new [z0] [(.slice x1 x1n x1c)] 72 rfl (by simp [Value.oneCell'])
theorem sz74 : sizeT Try.prog 74 = some 1 := by kernel_rfl
theorem sh74 : shapeT Try.prog 74 = some (some 1) := by kernel_rfl
@[go_sem ↓] theorem ld74 (b o : Nat) : loadO Try.prog 74 (ptr b o) w = ((w.cell? ⟨b, o, none⟩).bind fun c0 => some (.agg #[c0])) := by
  rw [loadN sh74]
  simp only [cells_succ, cells_zero, Nat.zero_add, Nat.add_zero, Nat.reduceAdd, Option.map_some, Option.map_bind, Function.comp_def, Option.bind_map]
  try rfl
@[go_sem ↓] theorem st74 (b o : Nat) (x1 : Option Addr) (x1n x1c : Nat) : storeO Try.prog 74 (ptr b o) (.agg #[(.slice x1 x1n x1c)]) w = storeL w ⟨b, o, none⟩ 0 [(.slice x1 x1n x1c)] := storeO_eq sz74 b o _ rfl
@[go_sem ↓] theorem sn74 (n : Nat) (z0 : Value) (x1 : Option Addr) (x1n x1c : Nat) (hn : n = w.heap.size) : storeL (w.alloc (.cells #[z0] 74)) ⟨n, 0, none⟩ 0 [(.slice x1 x1n x1c)] = some (w.alloc (.cells #[(.slice x1 x1n x1c)] 74)) := by subst hn; exact storeL_new [z0] [(.slice x1 x1n x1c)] 74 rfl (by simp [Value.oneCell'])
@[go_sem ↓] theorem al30 : RunV Try.prog (allocS 30 true (.tuple #[])) w K2 = K2 (ptr w.heap.size 0) (w.alloc (.cells #[.int .i64 0, .string ⟨#[]⟩, .int .i64 0, .string ⟨#[]⟩, .bool false] 30)) := run_of (by kernel_rfl)
@[go_sem ↓] theorem al36 : RunV Try.prog (allocS 36 true (.tuple #[])) w K2 = K2 (ptr w.heap.size 0) (w.alloc (.cells #[.string ⟨#[]⟩, .slice none 0 0] 36)) := run_of (by kernel_rfl)
@[go_sem ↓] theorem al40 : RunV Try.prog (allocS 40 true (.tuple #[])) w K2 = K2 (ptr w.heap.size 0) (w.alloc (.cells #[.int .i64 0, .int .u64 0, .string ⟨#[]⟩, .bool false] 40)) := run_of (by kernel_rfl)
@[go_sem ↓] theorem al46 : RunV Try.prog (allocS 46 true (.tuple #[])) w K2 = K2 (ptr w.heap.size 0) (w.alloc (.cells #[.int .i64 0, .int .u64 0, .string ⟨#[]⟩, .bool false] 46)) := run_of (by kernel_rfl)
@[go_sem ↓] theorem al74 : RunV Try.prog (allocS 74 true (.tuple #[])) w K2 = K2 (ptr w.heap.size 0) (w.alloc (.cells #[.slice none 0 0] 74)) := run_of (by kernel_rfl)
@[go_sem ↓] theorem fa28_0 (b o : Nat) : PureV Try.prog (faddrS 28 (ptr b o) 0) K = K (ptr b o) := pv_of fun _ => by kernel_rfl
@[go_sem ↓] theorem fa30_0 (b o : Nat) : PureV Try.prog (faddrS 30 (ptr b o) 0) K = K (ptr b o) := pv_of fun _ => by kernel_rfl
@[go_sem ↓] theorem fa30_1 (b o : Nat) : PureV Try.prog (faddrS 30 (ptr b o) 1) K = K (ptr b (o + 1)) := pv_of fun _ => by kernel_rfl
@[go_sem ↓] theorem fa30_2 (b o : Nat) : PureV Try.prog (faddrS 30 (ptr b o) 2) K = K (ptr b (o + 2)) := pv_of fun _ => by kernel_rfl
@[go_sem ↓] theorem fa30_3 (b o : Nat) : PureV Try.prog (faddrS 30 (ptr b o) 3) K = K (ptr b (o + 3)) := pv_of fun _ => by kernel_rfl
@[go_sem ↓] theorem fa30_4 (b o : Nat) : PureV Try.prog (faddrS 30 (ptr b o) 4) K = K (ptr b (o + 4)) := pv_of fun _ => by kernel_rfl
@[go_sem ↓] theorem fa36_0 (b o : Nat) : PureV Try.prog (faddrS 36 (ptr b o) 0) K = K (ptr b o) := pv_of fun _ => by kernel_rfl
@[go_sem ↓] theorem fa36_1 (b o : Nat) : PureV Try.prog (faddrS 36 (ptr b o) 1) K = K (ptr b (o + 1)) := pv_of fun _ => by kernel_rfl
@[go_sem ↓] theorem fa40_0 (b o : Nat) : PureV Try.prog (faddrS 40 (ptr b o) 0) K = K (ptr b o) := pv_of fun _ => by kernel_rfl
@[go_sem ↓] theorem fa40_1 (b o : Nat) : PureV Try.prog (faddrS 40 (ptr b o) 1) K = K (ptr b (o + 1)) := pv_of fun _ => by kernel_rfl
@[go_sem ↓] theorem fa40_2 (b o : Nat) : PureV Try.prog (faddrS 40 (ptr b o) 2) K = K (ptr b (o + 2)) := pv_of fun _ => by kernel_rfl
@[go_sem ↓] theorem fa40_3 (b o : Nat) : PureV Try.prog (faddrS 40 (ptr b o) 3) K = K (ptr b (o + 3)) := pv_of fun _ => by kernel_rfl
@[go_sem ↓] theorem fa46_0 (b o : Nat) : PureV Try.prog (faddrS 46 (ptr b o) 0) K = K (ptr b o) := pv_of fun _ => by kernel_rfl
@[go_sem ↓] theorem fa46_1 (b o : Nat) : PureV Try.prog (faddrS 46 (ptr b o) 1) K = K (ptr b (o + 1)) := pv_of fun _ => by kernel_rfl
@[go_sem ↓] theorem fa46_2 (b o : Nat) : PureV Try.prog (faddrS 46 (ptr b o) 2) K = K (ptr b (o + 2)) := pv_of fun _ => by kernel_rfl
@[go_sem ↓] theorem fa46_3 (b o : Nat) : PureV Try.prog (faddrS 46 (ptr b o) 3) K = K (ptr b (o + 3)) := pv_of fun _ => by kernel_rfl
@[go_sem ↓] theorem fa67_0 (b o : Nat) : PureV Try.prog (faddrS 67 (ptr b o) 0) K = K (ptr b o) := pv_of fun _ => by kernel_rfl
@[go_sem ↓] theorem fa74_0 (b o : Nat) : PureV Try.prog (faddrS 74 (ptr b o) 0) K = K (ptr b o) := pv_of fun _ => by kernel_rfl
@[go_sem ↓] theorem fl46_1 (c0 c1 c2 c3 : Value) : PureV Try.prog (fieldS 46 (.agg #[c0, c1, c2, c3]) 1) K = K (c1) := pv_of fun _ => by kernel_rfl
@[go_sem ↓] theorem np23e (c : Bool) (a : Addr) : PureV Try.prog (eqS .eql 23 c (.pointer (some a)) (.pointer none)) K = K (.bool false) := pv_of fun _ => by kernel_rfl
@[go_sem ↓] theorem nn23e (c : Bool) : PureV Try.prog (eqS .eql 23 c (.pointer none) (.pointer none)) K = K (.bool true) := pv_of fun _ => by kernel_rfl
@[go_sem ↓] theorem np23n (c : Bool) (a : Addr) : PureV Try.prog (eqS .neq 23 c (.pointer (some a)) (.pointer none)) K = K (.bool true) := pv_of fun _ => by kernel_rfl
@[go_sem ↓] theorem nn23n (c : Bool) : PureV Try.prog (eqS .neq 23 c (.pointer none) (.pointer none)) K = K (.bool false) := pv_of fun _ => by kernel_rfl
@[go_sem ↓] theorem np72e (c : Bool) (a : Addr) (n m n2 m2 : Nat) : PureV Try.prog (eqS .eql 72 c (.slice (some a) n m) (.slice none n2 m2)) K = K (.bool false) := pv_of fun _ => by kernel_rfl
@[go_sem ↓] theorem nn72e (c : Bool) (n m n2 m2 : Nat) : PureV Try.prog (eqS .eql 72 c (.slice none n m) (.slice none n2 m2)) K = K (.bool true) := pv_of fun _ => by kernel_rfl
@[go_sem ↓] theorem np72n (c : Bool) (a : Addr) (n m n2 m2 : Nat) : PureV Try.prog (eqS .neq 72 c (.slice (some a) n m) (.slice none n2 m2)) K = K (.bool true) := pv_of fun _ => by kernel_rfl
@[go_sem ↓] theorem nn72n (c : Bool) (n m n2 m2 : Nat) : PureV Try.prog (eqS .neq 72 c (.slice none n m) (.slice none n2 m2)) K = K (.bool false) := pv_of fun _ => by kernel_rfl
@[go_sem ↓] theorem eb4 (c x y : Bool) : PureV Try.prog (eqS .eql 4 c (.bool x) (.bool y)) K = K (.bool (x == y)) := pv_of fun _ => by kernel_rfl
@[go_sem ↓] theorem nb4 (c x y : Bool) : PureV Try.prog (eqS .neq 4 c (.bool x) (.bool y)) K = K (.bool (!(x == y))) := pv_of fun _ => by kernel_rfl
@[go_sem ↓] theorem eeq40 (c : Bool) (x1 : Int) (x2 : Int) (x3 : ByteArray) (x4 : Bool) (x5 : Int) (x6 : Int) (x7 : ByteArray) (x8 : Bool) : PureV Try.prog (eqS .eql 40 c (.agg #[(.int .i64 x1), (.int .u64 x2), (.string x3), (.bool x4)]) (.agg #[(.int .i64 x5), (.int .u64 x6), (.string x7), (.bool x8)])) K = K (.bool ((decide (x1 = x5) && (decide (x2 = x6) && (decide (x3 = x7) && (decide (x4 = x8) && true)))))) := eq_agg (by kernel_rfl) (eqG (l := [(true, 3, 0), (true, 37, 1), (true, 9, 2), (true, 4, 3)]) 9999 (by kernel_rfl) (by kernel_rfl) (by kernel_rfl) (eqF_cons (fun _ => by kernel_rfl) (fun _ => by kernel_rfl) (eqI Try.underlying3 9998 _ _) (eqF_cons (fun _ => by kernel_rfl) (fun _ => by kernel_rfl) (eqI Try.underlying37 9998 _ _) (eqF_cons (fun _ => by kernel_rfl) (fun _ => by kernel_rfl) (eqT Try.underlying9 9998 _ _) (eqF_cons (fun _ => by kernel_rfl) (fun _ => by kernel_rfl) (eqB Try.underlying4 9998 _ _) (eqF_nil _ _ _))))))
@[go_sem ↓] theorem ene40 (c : Bool) (x1 : Int) (x2 : Int) (x3 : ByteArray) (x4 : Bool) (x5 : Int) (x6 : Int) (x7 : ByteArray) (x8 : Bool) : PureV Try.prog (eqS .neq 40 c (.agg #[(.int .i64 x1), (.int .u64 x2), (.string x3), (.bool x4)]) (.agg #[(.int .i64 x5), (.int .u64 x6), (.string x7), (.bool x8)])) K = K (.bool (!(decide (x1 = x5) && (decide (x2 = x6) && (decide (x3 = x7) && (decide (x4 = x8) && true)))))) := ne_agg (by kernel_rfl) (eqG (l := [(true, 3, 0), (true, 37, 1), (true, 9, 2), (true, 4, 3)]) 9999 (by kernel_rfl) (by kernel_rfl) (by kernel_rfl) (eqF_cons (fun _ => by kernel_rfl) (fun _ => by kernel_rfl) (eqI Try.underlying3 9998 _ _) (eqF_cons (fun _ => by kernel_rfl) (fun _ => by kernel_rfl) (eqI Try.underlying37 9998 _ _) (eqF_cons (fun _ => by kernel_rfl) (fun _ => by kernel_rfl) (eqT Try.underlying9 9998 _ _) (eqF_cons (fun _ => by kernel_rfl) (fun _ => by kernel_rfl) (eqB Try.underlying4 9998 _ _) (eqF_nil _ _ _))))))
@[go_sem ↓] theorem eeq46 (c : Bool) (x1 : Int) (x2 : Int) (x3 : ByteArray) (x4 : Bool) (x5 : Int) (x6 : Int) (x7 : ByteArray) (x8 : Bool) : PureV Try.prog (eqS .eql 46 c (.agg #[(.int .i64 x1), (.int .u64 x2), (.string x3), (.bool x4)]) (.agg #[(.int .i64 x5), (.int .u64 x6), (.string x7), (.bool x8)])) K = K (.bool ((decide (x1 = x5) && (decide (x2 = x6) && (decide (x3 = x7) && (decide (x4 = x8) && true)))))) := eq_agg (by kernel_rfl) (eqG (l := [(true, 3, 0), (true, 37, 1), (true, 9, 2), (true, 4, 3)]) 9999 (by kernel_rfl) (by kernel_rfl) (by kernel_rfl) (eqF_cons (fun _ => by kernel_rfl) (fun _ => by kernel_rfl) (eqI Try.underlying3 9998 _ _) (eqF_cons (fun _ => by kernel_rfl) (fun _ => by kernel_rfl) (eqI Try.underlying37 9998 _ _) (eqF_cons (fun _ => by kernel_rfl) (fun _ => by kernel_rfl) (eqT Try.underlying9 9998 _ _) (eqF_cons (fun _ => by kernel_rfl) (fun _ => by kernel_rfl) (eqB Try.underlying4 9998 _ _) (eqF_nil _ _ _))))))
@[go_sem ↓] theorem ene46 (c : Bool) (x1 : Int) (x2 : Int) (x3 : ByteArray) (x4 : Bool) (x5 : Int) (x6 : Int) (x7 : ByteArray) (x8 : Bool) : PureV Try.prog (eqS .neq 46 c (.agg #[(.int .i64 x1), (.int .u64 x2), (.string x3), (.bool x4)]) (.agg #[(.int .i64 x5), (.int .u64 x6), (.string x7), (.bool x8)])) K = K (.bool (!(decide (x1 = x5) && (decide (x2 = x6) && (decide (x3 = x7) && (decide (x4 = x8) && true)))))) := ne_agg (by kernel_rfl) (eqG (l := [(true, 3, 0), (true, 37, 1), (true, 9, 2), (true, 4, 3)]) 9999 (by kernel_rfl) (by kernel_rfl) (by kernel_rfl) (eqF_cons (fun _ => by kernel_rfl) (fun _ => by kernel_rfl) (eqI Try.underlying3 9998 _ _) (eqF_cons (fun _ => by kernel_rfl) (fun _ => by kernel_rfl) (eqI Try.underlying37 9998 _ _) (eqF_cons (fun _ => by kernel_rfl) (fun _ => by kernel_rfl) (eqT Try.underlying9 9998 _ _) (eqF_cons (fun _ => by kernel_rfl) (fun _ => by kernel_rfl) (eqB Try.underlying4 9998 _ _) (eqF_nil _ _ _))))))
@[go_sem ↓] theorem ln9 (ty : TypeId) (s : ByteArray) : ReadV Try.prog (lenS #[9] ty #[.string s]) w K = K (.int .i64 s.size) := len_str Try.underlying9 s
@[go_sem ↓] theorem ln22 (ty : TypeId) (a : Option Addr) (n c : Nat) : ReadV Try.prog (lenS #[22] ty #[.slice a n c]) w K = K (.int .i64 n) := len_slice Try.underlying22 a n c
@[go_sem ↓] theorem sl22 (ty : TypeId) (a : Option Addr) (n c : Nat) (v : Value) : Stay Try.prog (lenS #[22] ty #[.slice a n c]) v w = (.int .i64 n = v) := stay_len_slice Try.underlying22 a n c v
@[go_sem ↓] theorem ln26 (ty : TypeId) (a : Option Addr) (n c : Nat) : ReadV Try.prog (lenS #[26] ty #[.slice a n c]) w K = K (.int .i64 n) := len_slice Try.underlying26 a n c
@[go_sem ↓] theorem sl26 (ty : TypeId) (a : Option Addr) (n c : Nat) (v : Value) : Stay Try.prog (lenS #[26] ty #[.slice a n c]) v w = (.int .i64 n = v) := stay_len_slice Try.underlying26 a n c v
@[go_sem ↓] theorem ln33 (ty : TypeId) (a : Option Addr) (n c : Nat) : ReadV Try.prog (lenS #[33] ty #[.slice a n c]) w K = K (.int .i64 n) := len_slice Try.underlying33 a n c
@[go_sem ↓] theorem sl33 (ty : TypeId) (a : Option Addr) (n c : Nat) (v : Value) : Stay Try.prog (lenS #[33] ty #[.slice a n c]) v w = (.int .i64 n = v) := stay_len_slice Try.underlying33 a n c v
@[go_sem ↓] theorem ln34 (ty : TypeId) (a : Option Addr) (n c : Nat) : ReadV Try.prog (lenS #[34] ty #[.slice a n c]) w K = K (.int .i64 n) := len_slice Try.underlying34 a n c
@[go_sem ↓] theorem sl34 (ty : TypeId) (a : Option Addr) (n c : Nat) (v : Value) : Stay Try.prog (lenS #[34] ty #[.slice a n c]) v w = (.int .i64 n = v) := stay_len_slice Try.underlying34 a n c v
@[go_sem ↓] theorem ln72 (ty : TypeId) (a : Option Addr) (n c : Nat) : ReadV Try.prog (lenS #[72] ty #[.slice a n c]) w K = K (.int .i64 n) := len_slice Try.underlying72 a n c
@[go_sem ↓] theorem sl72 (ty : TypeId) (a : Option Addr) (n c : Nat) (v : Value) : Stay Try.prog (lenS #[72] ty #[.slice a n c]) v w = (.int .i64 n = v) := stay_len_slice Try.underlying72 a n c v
theorem ix22 {k : IntKind} (b o l c : Nat) (i : Int) (h0 : 0 ≤ i) (h1 : i < l) : PureV Try.prog (iaddrS 22 (.slice (some ⟨b, o, none⟩) l c) (.int k i)) K = K (ptr b (o + i.toNat * 5)) := index_slice Try.underlying22 sz30 b o l c i h0 h1
theorem ix26 {k : IntKind} (b o l c : Nat) (i : Int) (h0 : 0 ≤ i) (h1 : i < l) : PureV Try.prog (iaddrS 26 (.slice (some ⟨b, o, none⟩) l c) (.int k i)) K = K (ptr b (o + i.toNat * 2)) := index_slice Try.underlying26 sz36 b o l c i h0 h1
theorem ix33 {k : IntKind} (b o l c : Nat) (i : Int) (h0 : 0 ≤ i) (h1 : i < l) : PureV Try.prog (iaddrS 33 (.slice (some ⟨b, o, none⟩) l c) (.int k i)) K = K (ptr b (o + i.toNat * 1)) := index_slice Try.underlying33 sz9 b o l c i h0 h1
theorem ix34 {k : IntKind} (b o l c : Nat) (i : Int) (h0 : 0 ≤ i) (h1 : i < l) : PureV Try.prog (iaddrS 34 (.slice (some ⟨b, o, none⟩) l c) (.int k i)) K = K (ptr b (o + i.toNat * 4)) := index_slice Try.underlying34 sz40 b o l c i h0 h1
theorem ix72 {k : IntKind} (b o l c : Nat) (i : Int) (h0 : 0 ≤ i) (h1 : i < l) : PureV Try.prog (iaddrS 72 (.slice (some ⟨b, o, none⟩) l c) (.int k i)) K = K (ptr b (o + i.toNat * 4)) := index_slice Try.underlying72 sz46 b o l c i h0 h1
@[go_sem ↓] theorem bd28  : PureV Try.prog (buildS 28 #[]) K = K (.agg #[.slice none 0 0]) := pv_of fun _ => by kernel_rfl
@[go_sem ↓] theorem bd36_0_1 (x1 : ByteArray) (x2 : Option Addr) (x2n x2c : Nat) : PureV Try.prog (buildS 36 #[(0, (.string x1)), (1, (.slice x2 x2n x2c))]) K = K (.agg #[(.string x1), (.slice x2 x2n x2c)]) := pv_of fun _ => by kernel_rfl
@[go_sem ↓] theorem bd40  : PureV Try.prog (buildS 40 #[]) K = K (.agg #[.int .i64 0, .int .u64 0, .string ⟨#[]⟩, .bool false]) := pv_of fun _ => by kernel_rfl
@[go_sem ↓] theorem bd40_0_1_2_3 (x1 : Int) (x2 : Int) (x3 : ByteArray) (x4 : Bool) : PureV Try.prog (buildS 40 #[(0, (.int .i64 x1)), (1, (.int .u64 x2)), (2, (.string x3)), (3, (.bool x4))]) K = K (.agg #[(.int .i64 x1), (.int .u64 x2), (.string x3), (.bool x4)]) := pv_of fun _ => by kernel_rfl
@[go_sem ↓] theorem bd46  : PureV Try.prog (buildS 46 #[]) K = K (.agg #[.int .i64 0, .int .u64 0, .string ⟨#[]⟩, .bool false]) := pv_of fun _ => by kernel_rfl
@[go_sem ↓] theorem bd46_0_1_2_3 (x1 : Int) (x2 : Int) (x3 : ByteArray) (x4 : Bool) : PureV Try.prog (buildS 46 #[(0, (.int .i64 x1)), (1, (.int .u64 x2)), (2, (.string x3)), (3, (.bool x4))]) K = K (.agg #[(.int .i64 x1), (.int .u64 x2), (.string x3), (.bool x4)]) := pv_of fun _ => by kernel_rfl
@[go_sem ↓] theorem bd67_0 (x1 : Option Nat) : PureV Try.prog (buildS 67 #[(0, (.map x1))]) K = K (.agg #[(.map x1)]) := pv_of fun _ => by kernel_rfl
@[go_sem ↓] theorem bd74  : PureV Try.prog (buildS 74 #[]) K = K (.agg #[.slice none 0 0]) := pv_of fun _ => by kernel_rfl
@[go_sem ↓] theorem bd74_0 (x1 : Option Addr) (x1n x1c : Nat) : PureV Try.prog (buildS 74 #[(0, (.slice x1 x1n x1c))]) K = K (.agg #[(.slice x1 x1n x1c)]) := pv_of fun _ => by kernel_rfl
@[go_sem ↓] theorem bs26_0  : RunV Try.prog (bsliceS 26 0 #[]) w K2 = K2 (.slice (some ⟨w.heap.size, 0, none⟩) 0 0) (w.alloc (.cells #[] 36)) := run_of (by kernel_rfl)
@[go_sem ↓] theorem bs26_1 (x1 : ByteArray) (x2 : Option Addr) (x2n x2c : Nat) : RunV Try.prog (bsliceS 26 1 #[(0, (.agg #[(.string x1), (.slice x2 x2n x2c)]))]) w K2 = K2 (.slice (some ⟨w.heap.size, 0, none⟩) 1 1) (w.alloc (.cells #[(.string x1), (.slice x2 x2n x2c)] 36)) := run_of (by kernel_rfl)
@[go_sem ↓] theorem bs33_1 (x1 : ByteArray) : RunV Try.prog (bsliceS 33 1 #[(0, (.string x1))]) w K2 = K2 (.slice (some ⟨w.heap.size, 0, none⟩) 1 1) (w.alloc (.cells #[(.string x1)] 9)) := run_of (by kernel_rfl)
@[go_sem ↓] theorem bs34_0  : RunV Try.prog (bsliceS 34 0 #[]) w K2 = K2 (.slice (some ⟨w.heap.size, 0, none⟩) 0 0) (w.alloc (.cells #[] 40)) := run_of (by kernel_rfl)
@[go_sem ↓] theorem bs34_1 (x1 : Int) (x2 : Int) (x3 : ByteArray) (x4 : Bool) : RunV Try.prog (bsliceS 34 1 #[(0, (.agg #[(.int .i64 x1), (.int .u64 x2), (.string x3), (.bool x4)]))]) w K2 = K2 (.slice (some ⟨w.heap.size, 0, none⟩) 1 1) (w.alloc (.cells #[(.int .i64 x1), (.int .u64 x2), (.string x3), (.bool x4)] 40)) := run_of (by kernel_rfl)
@[go_sem ↓] theorem bs72_0  : RunV Try.prog (bsliceS 72 0 #[]) w K2 = K2 (.slice (some ⟨w.heap.size, 0, none⟩) 0 0) (w.alloc (.cells #[] 46)) := run_of (by kernel_rfl)
@[go_sem ↓] theorem bs72_1 (x1 : Int) (x2 : Int) (x3 : ByteArray) (x4 : Bool) : RunV Try.prog (bsliceS 72 1 #[(0, (.agg #[(.int .i64 x1), (.int .u64 x2), (.string x3), (.bool x4)]))]) w K2 = K2 (.slice (some ⟨w.heap.size, 0, none⟩) 1 1) (w.alloc (.cells #[(.int .i64 x1), (.int .u64 x2), (.string x3), (.bool x4)] 46)) := run_of (by kernel_rfl)
theorem inf9 : (Try.prog.info? 9).map (fun i => (i.zero, i.size, i.bytes)) = some (some (.string ⟨#[]⟩), 1, 16) := by kernel_rfl
theorem inf36 : (Try.prog.info? 36).map (fun i => (i.zero, i.size, i.bytes)) = some (some (.agg #[.string ⟨#[]⟩, .slice none 0 0]), 2, 40) := by kernel_rfl
theorem inf40 : (Try.prog.info? 40).map (fun i => (i.zero, i.size, i.bytes)) = some (some (.agg #[.int .i64 0, .int .u64 0, .string ⟨#[]⟩, .bool false]), 4, 40) := by kernel_rfl
theorem inf46 : (Try.prog.info? 46).map (fun i => (i.zero, i.size, i.bytes)) = some (some (.agg #[.int .i64 0, .int .u64 0, .string ⟨#[]⟩, .bool false]), 4, 40) := by kernel_rfl
@[go_sem ↓] theorem cv3_148 (x : Int) : PureV Try.prog (convS 3 148 (.int .i64 x)) K = K (.int .u64 (IntKind.u64.wrap x)) := pv_of fun _ => by kernel_rfl
@[go_sem ↓] theorem cv5_3 (x : Int) : PureV Try.prog (convS 5 3 (.int .u8 x)) K = K (.int .i64 (IntKind.i64.wrap x)) := pv_of fun _ => by kernel_rfl
@[go_sem ↓] theorem cv148_3 (x : Int) : PureV Try.prog (convS 148 3 (.int .u64 x)) K = K (.int .i64 (IntKind.i64.wrap x)) := pv_of fun _ => by kernel_rfl
end
end Go.Proofs.Ytbjakblkppnieaa
