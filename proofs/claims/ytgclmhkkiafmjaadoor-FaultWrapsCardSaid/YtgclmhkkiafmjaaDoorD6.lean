/- A part of the proof, under no conditions of its own: D6. -/
import Derived.Test.YtgclmhkkiafmjaaDoorD5
namespace Go.Proofs.T
open Go Go.Ab Go.RowKit Go.Extern.Stop Go.Stop Go.Extern

theorem noAs30 (v : Value) (w : World) : (Instr.typeAssert (.iface 30 v) 28 88 true).run Tryd.prog w = .ok (.tuple #[.nilIface, .bool false]) w :=
  run_typeAssert_lacksB Tryd.underlying88 (by kernel_rfl) (by kernel_rfl) v 28 w
theorem noAs50 (v : Value) (w : World) : (Instr.typeAssert (.iface 50 v) 28 88 true).run Tryd.prog w = .ok (.tuple #[.nilIface, .bool false]) w :=
  run_typeAssert_lacksB Tryd.underlying88 (by kernel_rfl) (by kernel_rfl) v 28 w
theorem noAs59 (v : Value) (w : World) : (Instr.typeAssert (.iface 59 v) 28 88 true).run Tryd.prog w = .ok (.tuple #[.nilIface, .bool false]) w :=
  run_typeAssert_lacksB Tryd.underlying88 (by kernel_rfl) (by kernel_rfl) v 28 w
theorem noUn30 (v : Value) (w : World) : (Instr.typeAssert (.iface 30 v) 28 60 true).run Tryd.prog w = .ok (.tuple #[.nilIface, .bool false]) w :=
  run_typeAssert_lacksB Tryd.underlying60 (by kernel_rfl) (by kernel_rfl) v 28 w
theorem noUs30 (v : Value) (w : World) : (Instr.typeAssert (.iface 30 v) 28 83 true).run Tryd.prog w = .ok (.tuple #[.nilIface, .bool false]) w :=
  run_typeAssert_lacksB Tryd.underlying83 (by kernel_rfl) (by kernel_rfl) v 28 w
theorem hasUn50 (v : Value) (w : World) : (Instr.typeAssert (.iface 50 v) 28 60 true).run Tryd.prog w = .ok (.tuple #[.iface 50 v, .bool true]) w :=
  run_typeAssert_hasB Tryd.underlying60 (by kernel_rfl) v 28 w
theorem hasUn59 (v : Value) (w : World) : (Instr.typeAssert (.iface 59 v) 28 60 true).run Tryd.prog w = .ok (.tuple #[.iface 59 v, .bool true]) w :=
  run_typeAssert_hasB Tryd.underlying60 (by kernel_rfl) v 28 w

/-! Values of reflectlite: the handle of a type, a variable, a flag. -/
theorem valOf52 (t : Addr) (w : World) : (ReflectliteValue.unpack (.iface 52 (.pointer (some t)))).run Tryd.prog w
    = .ok (.agg #[hd 52, .pointer (some ⟨w.heap.size, 0, none⟩), .int .u64 150]) (w.alloc (.cells #[.pointer (some t)] 52)) := by kernel_rfl
theorem valOf53 (t : Addr) (w : World) : (ReflectliteValue.unpack (.iface 53 (.pointer (some t)))).run Tryd.prog w
    = .ok (.agg #[hd 53, .pointer (some ⟨w.heap.size, 0, none⟩), .int .u64 150]) (w.alloc (.cells #[.pointer (some t)] 53)) := by kernel_rfl
theorem valOf30 (c : Int) (w : World) : (ReflectliteValue.unpack (.iface 30 (.int .i64 c))).run Tryd.prog w
    = .ok (.agg #[hd 30, .pointer (some ⟨w.heap.size, 0, none⟩), .int .u64 130]) (w.alloc (.cells #[.int .i64 c] 30)) := by kernel_rfl
theorem valOf50 (c a : Int) (w : World) : (ReflectliteValue.unpack (.iface 50 (.agg #[.int .i64 c, .int .i64 a]))).run Tryd.prog w
    = .ok (.agg #[hd 50, .pointer (some ⟨w.heap.size, 0, none⟩), .int .u64 153]) (w.alloc (.cells #[.int .i64 c, .int .i64 a] 50)) := by kernel_rfl
end Go.Proofs.T

