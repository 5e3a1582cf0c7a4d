/- A part of the proof, under no conditions of its own: D8. -/
import Derived.Test.YtgclmhkkiafmjaaDoorD7
namespace Go.Proofs.T
open Go Go.Ab Go.RowKit Go.Extern.Stop Go.Stop Go.Extern

/-! ## The entries that read or write memory -/

theorem rlm (z : Sem Value) (f : TypeId → Addr → Nat → Nat → Sem Value) (v : Value) :
    ReflectliteValue.method z f #[v] = (do match ← ReflectliteValue.parts v with | none => z | some (t, a, fl) => f t a fl (fl % 32)) := rfl

theorem parts52 (a : Addr) (w : World) : (ReflectliteValue.parts (.agg #[hd 52, .pointer (some a), .int .u64 150])).run Tryd.prog w = .ok (some (52, a, 150)) w := by kernel_rfl
theorem type52 (a : Addr) (w : World) : (ReflectliteValue.methodAny (ReflectliteValue.valueError "reflectlite.Value.Type" 0) (fun t _ _ _ => ReflectliteType.toType t) #[.agg #[hd 52, .pointer (some a), .int .u64 150]]).run Tryd.prog w = .ok (rt 52) w := by kernel_rfl
theorem kind52 (w : World) : ((ReflectliteType.abiMethod fun t => Functor.map (fun a : Nat => Value.int IntKind.u8 (a : Int)) (Rtype.kind t)) #[hd 52]).run Tryd.prog w = .ok (.int .u8 22) w := by kernel_rfl
theorem isNil52 (a q : Addr) (W : World) (ha : W.cell? a = some (.pointer (some q))) :
    (ReflectliteValue.method (ReflectliteValue.valueError "reflectlite.Value.IsNil" 0) ReflectliteValue.isNil #[.agg #[hd 52, .pointer (some a), .int .u64 150]]).run Tryd.prog W = .ok (.bool false) W := by
  rw [rlm]
  simp only [Sem.run_bind, parts52, Result.andThen]
  simp [ReflectliteValue.isNil, loadVar, isAgg, underlying, Tryd.underlying52, ha, Result.andThen]
theorem elemOf52 (w : World) : (Rtype.elem? 52).run Tryd.prog w = .ok (some 30) w := by kernel_rfl

theorem parts53 (a : Addr) (w : World) : (ReflectliteValue.parts (.agg #[hd 53, .pointer (some a), .int .u64 150])).run Tryd.prog w = .ok (some (53, a, 150)) w := by kernel_rfl
theorem type53 (a : Addr) (w : World) : (ReflectliteValue.methodAny (ReflectliteValue.valueError "reflectlite.Value.Type" 0) (fun t _ _ _ => ReflectliteType.toType t) #[.agg #[hd 53, .pointer (some a), .int .u64 150]]).run Tryd.prog w = .ok (rt 53) w := by kernel_rfl
theorem kind53 (w : World) : ((ReflectliteType.abiMethod fun t => Functor.map (fun a : Nat => Value.int IntKind.u8 (a : Int)) (Rtype.kind t)) #[hd 53]).run Tryd.prog w = .ok (.int .u8 22) w := by kernel_rfl
theorem isNil53 (a q : Addr) (W : World) (ha : W.cell? a = some (.pointer (some q))) :
    (ReflectliteValue.method (ReflectliteValue.valueError "reflectlite.Value.IsNil" 0) ReflectliteValue.isNil #[.agg #[hd 53, .pointer (some a), .int .u64 150]]).run Tryd.prog W = .ok (.bool false) W := by
  rw [rlm]
  simp only [Sem.run_bind, parts53, Result.andThen]
  simp [ReflectliteValue.isNil, loadVar, isAgg, underlying, Tryd.underlying53, ha, Result.andThen]
theorem elemOf53 (w : World) : (Rtype.elem? 53).run Tryd.prog w = .ok (some 50) w := by kernel_rfl

theorem rls (v x : Value) : ReflectliteValue.set #[v, x] = (do
    let (some (dst, a, fl), some (src, b, _)) := (← ReflectliteValue.parts v, ← ReflectliteValue.parts x)
      | unsupported (.noEntry "extern/(internal/reflectlite.Value).Set.zeroValue")
    if fl / ReflectliteValue.flagAddr % 2 == 0 then unsupported (.noEntry "extern/(internal/reflectlite.Value).Set.unaddressable")
    let val ← loadVar src b
    if ← Rtype.directlyAssignable dst src then storeVar dst a val
    else if ← Rtype.implements dst src then
      if (← Rtype.kind src) == 20 then
        match val with
        | .nilIface => unsupported (.noEntry "extern/reflectlite: a nil value of one interface type handed on as a value of another")
        | _ => storeVar dst a val
      else storeVar dst a (.iface src val)
    else panicString ("reflectlite.Set: value of type " ++ (← Rtype.spelt src) ++ " is not assignable to type " ++ (← Rtype.spelt dst))
    pure (.tuple #[])) := rfl

theorem mk30 (q : Addr) (w : World) : (ReflectliteValue.mk 30 q ReflectliteValue.flagAddr).run Tryd.prog w = .ok (.agg #[hd 30, .pointer (some q), .int .u64 386]) w := by kernel_rfl
theorem elemV52 (a q : Addr) (W : World) (ha : W.cell? a = some (.pointer (some q))) :
    (ReflectliteValue.method (ReflectliteValue.valueError "reflectlite.Value.Elem" 0) ReflectliteValue.elem #[.agg #[hd 52, .pointer (some a), .int .u64 150]]).run Tryd.prog W
      = .ok (.agg #[hd 30, .pointer (some q), .int .u64 386]) W := by
  rw [rlm]
  simp only [Sem.run_bind, parts52, Result.andThen]
  simp [ReflectliteValue.elem, loadVar, isAgg, underlying, Tryd.underlying52, ha, Result.andThen, elemOf52, mk30]
theorem parts30a (a : Addr) (w : World) : (ReflectliteValue.parts (.agg #[hd 30, .pointer (some a), .int .u64 386])).run Tryd.prog w = .ok (some (30, a, 386)) w := by kernel_rfl
theorem parts30 (a : Addr) (w : World) : (ReflectliteValue.parts (.agg #[hd 30, .pointer (some a), .int .u64 130])).run Tryd.prog w = .ok (some (30, a, 130)) w := by kernel_rfl
theorem direct30 (w : World) : (Rtype.directlyAssignable 30 30).run Tryd.prog w = .ok true w := by kernel_rfl

theorem mk50 (q : Addr) (w : World) : (ReflectliteValue.mk 50 q ReflectliteValue.flagAddr).run Tryd.prog w = .ok (.agg #[hd 50, .pointer (some q), .int .u64 409]) w := by kernel_rfl
theorem elemV53 (a q : Addr) (W : World) (ha : W.cell? a = some (.pointer (some q))) :
    (ReflectliteValue.method (ReflectliteValue.valueError "reflectlite.Value.Elem" 0) ReflectliteValue.elem #[.agg #[hd 53, .pointer (some a), .int .u64 150]]).run Tryd.prog W
      = .ok (.agg #[hd 50, .pointer (some q), .int .u64 409]) W := by
  rw [rlm]
  simp only [Sem.run_bind, parts53, Result.andThen]
  simp [ReflectliteValue.elem, loadVar, isAgg, underlying, Tryd.underlying53, ha, Result.andThen, elemOf53, mk50]
theorem parts50a (a : Addr) (w : World) : (ReflectliteValue.parts (.agg #[hd 50, .pointer (some a), .int .u64 409])).run Tryd.prog w = .ok (some (50, a, 409)) w := by kernel_rfl
theorem parts50 (a : Addr) (w : World) : (ReflectliteValue.parts (.agg #[hd 50, .pointer (some a), .int .u64 153])).run Tryd.prog w = .ok (some (50, a, 153)) w := by kernel_rfl
theorem direct50 (w : World) : (Rtype.directlyAssignable 50 50).run Tryd.prog w = .ok true w := by kernel_rfl
end Go.Proofs.T

