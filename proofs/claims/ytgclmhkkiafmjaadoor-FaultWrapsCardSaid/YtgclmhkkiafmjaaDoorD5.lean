/- A part of the proof, under no conditions of its own: D5. -/
import Derived.Test.YtgclmhkkiafmjaaDoorD4
namespace Go.Proofs.T
open Go Go.Ab Go.RowKit Go.Extern.Stop Go.Stop Go.Extern

/-! ## The library's errors.As: closed facts on the model's entries -/

theorem nGlob : Tryd.prog.globals.size = 5 := by kernel_rfl
def hd (t : TypeId) : Value := .pointer (some ⟨5, t, none⟩)
def rt (t : TypeId) : Value := .iface 78 (.agg #[hd t])
theorem typeOf30 (v : Value) (w : World) : (ReflectliteType.typeOf #[.iface 30 v]).run Tryd.prog w = .ok (rt 30) w := by kernel_rfl
theorem typeOf50 (v : Value) (w : World) : (ReflectliteType.typeOf #[.iface 50 v]).run Tryd.prog w = .ok (rt 50) w := by kernel_rfl
theorem typeOf59 (v : Value) (w : World) : (ReflectliteType.typeOf #[.iface 59 v]).run Tryd.prog w = .ok (rt 59) w := by kernel_rfl
theorem asg30_30 (w : World) : (ReflectliteType.relation "AssignableTo" ReflectliteType.assignableTo #[.agg #[hd 30], rt 30]).run Tryd.prog w = .ok (.bool true) w := by kernel_rfl
theorem asg50_50 (w : World) : (ReflectliteType.relation "AssignableTo" ReflectliteType.assignableTo #[.agg #[hd 50], rt 50]).run Tryd.prog w = .ok (.bool true) w := by kernel_rfl
theorem asg50_30 (w : World) : (ReflectliteType.relation "AssignableTo" ReflectliteType.assignableTo #[.agg #[hd 50], rt 30]).run Tryd.prog w = .ok (.bool false) w := by kernel_rfl
theorem asg30_50 (w : World) : (ReflectliteType.relation "AssignableTo" ReflectliteType.assignableTo #[.agg #[hd 30], rt 50]).run Tryd.prog w = .ok (.bool false) w := by kernel_rfl
theorem asg59_30 (w : World) : (ReflectliteType.relation "AssignableTo" ReflectliteType.assignableTo #[.agg #[hd 59], rt 30]).run Tryd.prog w = .ok (.bool false) w := by kernel_rfl
theorem asg59_50 (w : World) : (ReflectliteType.relation "AssignableTo" ReflectliteType.assignableTo #[.agg #[hd 59], rt 50]).run Tryd.prog w = .ok (.bool false) w := by kernel_rfl
theorem mKind (h : Value) (w : World) : (method (Tryd.prog.types.size + Made.depth) 78 (.agg #[h]) "Kind").run Tryd.prog w = .ok (61, h) w := by kernel_rfl
theorem mElem (h : Value) (w : World) : (method (Tryd.prog.types.size + Made.depth) 78 (.agg #[h]) "Elem").run Tryd.prog w = .ok (76, .agg #[h]) w := by kernel_rfl
theorem mImpl (h : Value) (w : World) : (method (Tryd.prog.types.size + Made.depth) 78 (.agg #[h]) "Implements").run Tryd.prog w = .ok (77, .agg #[h]) w := by kernel_rfl
theorem mAsg (h : Value) (w : World) : (method (Tryd.prog.types.size + Made.depth) 78 (.agg #[h]) "AssignableTo").run Tryd.prog w = .ok (74, .agg #[h]) w := by kernel_rfl
theorem u59 (v : Value) (w : World) : (method (Tryd.prog.types.size + Made.depth) 59 v "Unwrap").run Tryd.prog w = .ok (69, v) w := by kernel_rfl
theorem u50 (v : Value) (w : World) : (method (Tryd.prog.types.size + Made.depth) 50 v "Unwrap").run Tryd.prog w = .ok (66, v) w := by kernel_rfl
theorem elem52 (w : World) : (ReflectliteType.method ReflectliteType.elem #[.agg #[hd 52]]).run Tryd.prog w = .ok (rt 30) w := by kernel_rfl
theorem elem53 (w : World) : (ReflectliteType.method ReflectliteType.elem #[.agg #[hd 53]]).run Tryd.prog w = .ok (rt 50) w := by kernel_rfl
theorem impl30 (w : World) : (ReflectliteType.relation "Implements" ReflectliteType.implements_ #[.agg #[hd 30], rt 28]).run Tryd.prog w = .ok (.bool true) w := by kernel_rfl
theorem impl50 (w : World) : (ReflectliteType.relation "Implements" ReflectliteType.implements_ #[.agg #[hd 50], rt 28]).run Tryd.prog w = .ok (.bool true) w := by kernel_rfl
end Go.Proofs.T

