/- A part of the proof, under no conditions of its own: ZAV. -/
import Derived.Test.YtjicgnbcelhoiaaGreatDoorZAU
import Derived.Test.YtjicgnbcelhoiaaGreatDoorZAG
import Derived.Stop.Asserts
namespace Go.Proofs.T
open Go Go.Ab Go.RowKit Go.Extern.Stop Go.Stop Go.Extern
theorem unwrapF_calls (c a : Int) (g d : Nat) : ACalls E 178 [.agg [dI c, dI a]] [] g d (.iface 56 (dI c)) [] := by
 refine acalls_of_awp (fn := Tryz.f178) (N := 6) Tryz.call178 Tryz.func178 rfl rfl (by simp) ?_
 simp only [go_sem]
 refine awp_seq_k (fun K1 hK1 => ?_)
 refine awp_plain 2 (by kernel_rfl) rfl (fun g0 hg0 => ?_)
 simp only [go_sem]
 refine hK1 _ ?_
 refine awp_seq_k (fun K2 hK2 => ?_)
 refine awp_plain 4 (by kernel_rfl) rfl (fun g1 hg1 => ?_)
 simp only [go_sem]
 refine hK2 _ ?_
 refine awp_ret ?_
 refine ends_ev rfl ?_
 simp only [go_sem]
 exact Co.refl _
def hd (t : TypeId) : Value := .pointer (some ⟨1, t, none⟩)
def rt (t : TypeId) : Value := .iface 172 (.agg #[hd t])
theorem typeOf56 (v : Value) (w : World) : (ReflectliteType.typeOf #[.iface 56 v]).run Tryz.prog w = .ok (rt 56) w := by kernel_rfl
theorem typeOf97 (v : Value) (w : World) : (ReflectliteType.typeOf #[.iface 97 v]).run Tryz.prog w = .ok (rt 97) w := by kernel_rfl
theorem asg56_56 (w : World) : (ReflectliteType.relation "AssignableTo" ReflectliteType.assignableTo #[.agg #[hd 56], rt 56]).run Tryz.prog w = .ok (.bool true) w := by kernel_rfl
theorem asg97_97 (w : World) : (ReflectliteType.relation "AssignableTo" ReflectliteType.assignableTo #[.agg #[hd 97], rt 97]).run Tryz.prog w = .ok (.bool true) w := by kernel_rfl
theorem asg97_56 (w : World) : (ReflectliteType.relation "AssignableTo" ReflectliteType.assignableTo #[.agg #[hd 97], rt 56]).run Tryz.prog w = .ok (.bool false) w := by kernel_rfl
theorem mKind (h : Value) (w : World) : (method (Tryz.prog.types.size + Made.depth) 172 (.agg #[h]) "Kind").run Tryz.prog w = .ok (173, h) w := by kernel_rfl
theorem mElem (h : Value) (w : World) : (method (Tryz.prog.types.size + Made.depth) 172 (.agg #[h]) "Elem").run Tryz.prog w = .ok (185, .agg #[h]) w := by kernel_rfl
theorem mImpl (h : Value) (w : World) : (method (Tryz.prog.types.size + Made.depth) 172 (.agg #[h]) "Implements").run Tryz.prog w = .ok (186, .agg #[h]) w := by kernel_rfl
theorem mAsg (h : Value) (w : World) : (method (Tryz.prog.types.size + Made.depth) 172 (.agg #[h]) "AssignableTo").run Tryz.prog w = .ok (183, .agg #[h]) w := by kernel_rfl
theorem u97 (v : Value) (w : World) : (method (Tryz.prog.types.size + Made.depth) 97 v "Unwrap").run Tryz.prog w = .ok (178, v) w := by kernel_rfl
theorem elem95 (w : World) : (ReflectliteType.method ReflectliteType.elem #[.agg #[hd 95]]).run Tryz.prog w = .ok (rt 56) w := by kernel_rfl
theorem elem98 (w : World) : (ReflectliteType.method ReflectliteType.elem #[.agg #[hd 98]]).run Tryz.prog w = .ok (rt 97) w := by kernel_rfl
theorem impl56 (w : World) : (ReflectliteType.relation "Implements" ReflectliteType.implements_ #[.agg #[hd 56], rt 54]).run Tryz.prog w = .ok (.bool true) w := by kernel_rfl
theorem impl97 (w : World) : (ReflectliteType.relation "Implements" ReflectliteType.implements_ #[.agg #[hd 97], rt 54]).run Tryz.prog w = .ok (.bool true) w := by kernel_rfl
theorem noAs97 (v : Value) (w : World) : (Instr.typeAssert (.iface 97 v) 54 177 true).run Tryz.prog w = .ok (.tuple #[.nilIface, .bool false]) w :=
 run_typeAssert_lacksB Tryz.underlying177 (by kernel_rfl) (by kernel_rfl) v 54 w
theorem hasUn97 (v : Value) (w : World) : (Instr.typeAssert (.iface 97 v) 54 180 true).run Tryz.prog w = .ok (.tuple #[.iface 97 v, .bool true]) w :=
 run_typeAssert_hasB Tryz.underlying180 (by kernel_rfl) v 54 w
theorem valOf95 (t : Addr) (w : World) : (ReflectliteValue.unpack (.iface 95 (.pointer (some t)))).run Tryz.prog w
  = .ok (.agg #[hd 95, .pointer (some ⟨w.heap.size, 0, none⟩), .int .u64 150]) (w.alloc (.cells #[.pointer (some t)] 95)) := by kernel_rfl
theorem valOf98 (t : Addr) (w : World) : (ReflectliteValue.unpack (.iface 98 (.pointer (some t)))).run Tryz.prog w
  = .ok (.agg #[hd 98, .pointer (some ⟨w.heap.size, 0, none⟩), .int .u64 150]) (w.alloc (.cells #[.pointer (some t)] 98)) := by kernel_rfl
theorem valOf56 (c : Int) (w : World) : (ReflectliteValue.unpack (.iface 56 (.int .i64 c))).run Tryz.prog w
  = .ok (.agg #[hd 56, .pointer (some ⟨w.heap.size, 0, none⟩), .int .u64 130]) (w.alloc (.cells #[.int .i64 c] 56)) := by kernel_rfl
theorem valOf97 (c a : Int) (w : World) : (ReflectliteValue.unpack (.iface 97 (.agg #[.int .i64 c, .int .i64 a]))).run Tryz.prog w
  = .ok (.agg #[hd 97, .pointer (some ⟨w.heap.size, 0, none⟩), .int .u64 153]) (w.alloc (.cells #[.int .i64 c, .int .i64 a] 97)) := by kernel_rfl
theorem vs_one {G : Gh} {w : World} {vs : Array Value} {d : D} (h : Vs G w vs [d]) : ∃ v, vs = #[v] ∧ V G w v d := by
 have hs : vs.size = 1 := h.1
 refine ⟨vs[0], Array.ext (by simp [hs]) fun i h1 h2 => ?_, h.2 0 _ _ (by simp [hs]) rfl⟩
 have : i = 0 := by simp at h2; omega
 subst this
 rfl
theorem vs_two {G : Gh} {w : World} {vs : Array Value} {d d' : D} (h : Vs G w vs [d, d']) : ∃ v v', vs = #[v, v'] ∧ V G w v d ∧ V G w v' d' := by
 have hs : vs.size = 2 := h.1
 refine ⟨vs[0], vs[1], Array.ext (by simp [hs]) fun i h1 h2 => ?_, h.2 0 _ _ (by simp [hs]) rfl, h.2 1 _ _ (by simp [hs]) rfl⟩
 match i with
 | 0 => rfl
 | 1 => rfl
 | n + 2 => exact absurd h2 (by simp)
theorem V.agg1 {G : Gh} {w : World} {v : Value} {x : Value} (h : V G w v (.agg [.val x])) : v = .agg #[x] := by
 cases h with
 | agg h1 h2 =>
  rename_i cs
  have hs : cs.size = 1 := h1
  congr 1
  refine Array.ext (by simp [hs]) fun i hi h3 => ?_
  have : i = 0 := by simp at h3; omega
  subst this
  exact V.of_val (h2 0 _ _ (by simp [hs]) rfl)
def rtD (t : TypeId) : D := .iface 172 (.agg [.val (hd t)])
theorem ofRt {G : Gh} {w : World} {v : Value} {t : TypeId} (h : V G w v (rtD t)) : v = rt t := by
 unfold rtD at h
 cases h with
 | iface h1 => rw [V.agg1 h1]; rfl
theorem rtV (G : Gh) (w : World) (t : TypeId) : V G w (rt t) (rtD t) := .iface (.agg rfl fun i c d hc hd => by
 match i, hc, hd with
 | 0, hc, hd => cases hc; cases hd; exact .val _)
theorem typeOf_calls {t : TypeId} (h : ∀ v w, (ReflectliteType.typeOf #[.iface t v]).run Tryz.prog w = .ok (rt t) w) (y : D) (g d : Nat) : XCalls E 102 [.iface t y] [] g d (rtD t) [] := by
 have hx := @run_callFunc_extern Tryz.prog 102 _ ReflectliteType.typeOf Tryz.func102 (by kernel_rfl) (by kernel_rfl) (by kernel_rfl) (by kernel_rfl)
 refine xcalls_pure fun w0 hA G w vs hw hvs => ?_
 obtain ⟨v, rfl, hv⟩ := vs_one hvs
 cases hv with
 | iface h1 => exact ⟨rt t, by rw [E_P, hx, h]; rfl, rtV G w t⟩
theorem asg_calls {t u : TypeId} {b : Bool} (h : ∀ w, (ReflectliteType.relation "AssignableTo" ReflectliteType.assignableTo #[.agg #[hd t], rt u]).run Tryz.prog w = .ok (.bool b) w) (g d : Nat) :
  XCalls E 183 [.agg [.val (hd t)], rtD u] [] g d (dB b) [] := by
 have hx := @run_callFunc_extern Tryz.prog 183 _ (ReflectliteType.relation "AssignableTo" ReflectliteType.assignableTo) Tryz.func183 (by kernel_rfl) (by kernel_rfl) (by kernel_rfl) (by kernel_rfl)
 refine xcalls_pure fun w0 hA G w vs hw hvs => ?_
 obtain ⟨v, v', rfl, hv, hv'⟩ := vs_two hvs
 rw [V.agg1 hv, ofRt hv']
 exact ⟨.bool b, by rw [E_P, hx, h]; rfl, .val _⟩
theorem recvAsg (t : TypeId) : Recv Tryz.prog 172 "AssignableTo" (.agg [.val (hd t)]) 183 (.agg [.val (hd t)]) := fun _ w v hv => ⟨v, by rw [V.agg1 hv]; exact mAsg _ w, hv⟩
theorem rlm (z : Sem Value) (f : TypeId → Addr → Nat → Nat → Sem Value) (v : Value) :
  ReflectliteValue.method z f #[v] = (do match ← ReflectliteValue.parts v with | none => z | some (t, a, fl) => f t a fl (fl % 32)) := rfl
theorem parts95 (a : Addr) (w : World) : (ReflectliteValue.parts (.agg #[hd 95, .pointer (some a), .int .u64 150])).run Tryz.prog w = .ok (some (95, a, 150)) w := by kernel_rfl
theorem type95 (a : Addr) (w : World) : (ReflectliteValue.methodAny (ReflectliteValue.valueError "reflectlite.Value.Type" 0) (fun t _ _ _ => ReflectliteType.toType t) #[.agg #[hd 95, .pointer (some a), .int .u64 150]]).run Tryz.prog w = .ok (rt 95) w := by kernel_rfl
theorem kind95 (w : World) : ((ReflectliteType.abiMethod fun t => Functor.map (fun a : Nat => Value.int IntKind.u8 (a : Int)) (Rtype.kind t)) #[hd 95]).run Tryz.prog w = .ok (.int .u8 22) w := by kernel_rfl
theorem isNil95 (a q : Addr) (W : World) (ha : W.cell? a = some (.pointer (some q))) :
  (ReflectliteValue.method (ReflectliteValue.valueError "reflectlite.Value.IsNil" 0) ReflectliteValue.isNil #[.agg #[hd 95, .pointer (some a), .int .u64 150]]).run Tryz.prog W = .ok (.bool false) W := by
 rw [rlm]
 simp only [Sem.run_bind, parts95, Result.andThen]
 simp [ReflectliteValue.isNil, loadVar, isAgg, underlying, Tryz.underlying95, ha, Result.andThen]
theorem elemOf95 (w : World) : (Rtype.elem? 95).run Tryz.prog w = .ok (some 56) w := by kernel_rfl
theorem parts98 (a : Addr) (w : World) : (ReflectliteValue.parts (.agg #[hd 98, .pointer (some a), .int .u64 150])).run Tryz.prog w = .ok (some (98, a, 150)) w := by kernel_rfl
theorem type98 (a : Addr) (w : World) : (ReflectliteValue.methodAny (ReflectliteValue.valueError "reflectlite.Value.Type" 0) (fun t _ _ _ => ReflectliteType.toType t) #[.agg #[hd 98, .pointer (some a), .int .u64 150]]).run Tryz.prog w = .ok (rt 98) w := by kernel_rfl
theorem kind98 (w : World) : ((ReflectliteType.abiMethod fun t => Functor.map (fun a : Nat => Value.int IntKind.u8 (a : Int)) (Rtype.kind t)) #[hd 98]).run Tryz.prog w = .ok (.int .u8 22) w := by kernel_rfl
theorem isNil98 (a q : Addr) (W : World) (ha : W.cell? a = some (.pointer (some q))) :
  (ReflectliteValue.method (ReflectliteValue.valueError "reflectlite.Value.IsNil" 0) ReflectliteValue.isNil #[.agg #[hd 98, .pointer (some a), .int .u64 150]]).run Tryz.prog W = .ok (.bool false) W := by
 rw [rlm]
 simp only [Sem.run_bind, parts98, Result.andThen]
 simp [ReflectliteValue.isNil, loadVar, isAgg, underlying, Tryz.underlying98, ha, Result.andThen]
theorem elemOf98 (w : World) : (Rtype.elem? 98).run Tryz.prog w = .ok (some 97) w := by kernel_rfl
theorem rls (v x : Value) : ReflectliteValue.set #[v, x] = (do
  let (some (dst, a, fl), some (src, b, _)) := (← ReflectliteValue.parts v, ← ReflectliteValue.parts x)
   | unsupported (.noEntry "extern/(internal/reflectlite.Value).Set.zeroValue")
  if fl / ReflectliteValue.flagAddr % 2 == 0 then unsupported (.noEntry "extern/(internal/reflectlite.Value).Set.unaddressable")
  let val ← loadVar src b
  if ← Rtype.directlyAssignable dst src then storeVar dst a val
  else if ← Rtype.implements dst src then
   if (← Rtype.kind src) == 20 then
    match val with
    | .nilIface => unsupported (.noEntry "extern/reflectlite: a nil value of one interface type handed on as a value of another")
    | _ => storeVar dst a val
   else storeVar dst a (.iface src val)
  else panicString ("reflectlite.Set: value of type " ++ (← Rtype.spelt src) ++ " is not assignable to type " ++ (← Rtype.spelt dst))
  pure (.tuple #[])) := rfl
theorem mk56 (q : Addr) (w : World) : (ReflectliteValue.mk 56 q ReflectliteValue.flagAddr).run Tryz.prog w = .ok (.agg #[hd 56, .pointer (some q), .int .u64 386]) w := by kernel_rfl
theorem elemV95 (a q : Addr) (W : World) (ha : W.cell? a = some (.pointer (some q))) :
  (ReflectliteValue.method (ReflectliteValue.valueError "reflectlite.Value.Elem" 0) ReflectliteValue.elem #[.agg #[hd 95, .pointer (some a), .int .u64 150]]).run Tryz.prog W
   = .ok (.agg #[hd 56, .pointer (some q), .int .u64 386]) W := by
 rw [rlm]
 simp only [Sem.run_bind, parts95, Result.andThen]
 simp [ReflectliteValue.elem, loadVar, isAgg, underlying, Tryz.underlying95, ha, Result.andThen, elemOf95, mk56]
theorem parts56a (a : Addr) (w : World) : (ReflectliteValue.parts (.agg #[hd 56, .pointer (some a), .int .u64 386])).run Tryz.prog w = .ok (some (56, a, 386)) w := by kernel_rfl
theorem parts56 (a : Addr) (w : World) : (ReflectliteValue.parts (.agg #[hd 56, .pointer (some a), .int .u64 130])).run Tryz.prog w = .ok (some (56, a, 130)) w := by kernel_rfl
theorem direct56 (w : World) : (Rtype.directlyAssignable 56 56).run Tryz.prog w = .ok true w := by kernel_rfl
theorem mk97 (q : Addr) (w : World) : (ReflectliteValue.mk 97 q ReflectliteValue.flagAddr).run Tryz.prog w = .ok (.agg #[hd 97, .pointer (some q), .int .u64 409]) w := by kernel_rfl
theorem elemV98 (a q : Addr) (W : World) (ha : W.cell? a = some (.pointer (some q))) :
  (ReflectliteValue.method (ReflectliteValue.valueError "reflectlite.Value.Elem" 0) ReflectliteValue.elem #[.agg #[hd 98, .pointer (some a), .int .u64 150]]).run Tryz.prog W
   = .ok (.agg #[hd 97, .pointer (some q), .int .u64 409]) W := by
 rw [rlm]
 simp only [Sem.run_bind, parts98, Result.andThen]
 simp [ReflectliteValue.elem, loadVar, isAgg, underlying, Tryz.underlying98, ha, Result.andThen, elemOf98, mk97]
theorem parts97a (a : Addr) (w : World) : (ReflectliteValue.parts (.agg #[hd 97, .pointer (some a), .int .u64 409])).run Tryz.prog w = .ok (some (97, a, 409)) w := by kernel_rfl
theorem parts97 (a : Addr) (w : World) : (ReflectliteValue.parts (.agg #[hd 97, .pointer (some a), .int .u64 153])).run Tryz.prog w = .ok (some (97, a, 153)) w := by kernel_rfl
theorem direct97 (w : World) : (Rtype.directlyAssignable 97 97).run Tryz.prog w = .ok true w := by kernel_rfl
theorem set56 (ta b : Addr) (v : Value) (W : World) (hb : W.cell? b = some v) :
  (ReflectliteValue.set #[.agg #[hd 56, .pointer (some ta), .int .u64 386], .agg #[hd 56, .pointer (some b), .int .u64 130]]).run Tryz.prog W
   = ((storeVar 56 ta v).run Tryz.prog W).andThen fun _ w => .ok (.tuple #[]) w := by
 rw [rls]
 simp only [Sem.run_bind, parts56a, parts56, Result.andThen]
 simp [ReflectliteValue.flagAddr, loadVar, isAgg, underlying, Tryz.underlying56, hb, Result.andThen, direct56]
abbrev valD (t : TypeId) (n : Nm) (fl : Int) : D := .agg [.val (hd t), .ptr n 0, .val (.int .u64 fl)]
theorem valueOf_x (args : Array Value) (w : World) : (callFunc 70 args).run Tryz.prog w = (((fun args => ReflectliteValue.unpack (args.getD 0 (.tuple #[]))) args).run Tryz.prog w).andThen fun v w' => .ok (.value v) w' := @run_callFunc_extern Tryz.prog 70 _ (fun args => ReflectliteValue.unpack (args.getD 0 (.tuple #[]))) Tryz.func70 (by kernel_rfl) (by kernel_rfl) (by kernel_rfl) (by kernel_rfl) args w
theorem vType_x (args : Array Value) (w : World) : (callFunc 71 args).run Tryz.prog w = (((ReflectliteValue.methodAny (ReflectliteValue.valueError "reflectlite.Value.Type" 0) (fun t _ _ _ => ReflectliteType.toType t)) args).run Tryz.prog w).andThen fun v w' => .ok (.value v) w' := @run_callFunc_extern Tryz.prog 71 _ (ReflectliteValue.methodAny (ReflectliteValue.valueError "reflectlite.Value.Type" 0) (fun t _ _ _ => ReflectliteType.toType t)) Tryz.func71 (by kernel_rfl) (by kernel_rfl) (by kernel_rfl) (by kernel_rfl) args w
theorem vIsNil_x (args : Array Value) (w : World) : (callFunc 72 args).run Tryz.prog w = (((ReflectliteValue.method (ReflectliteValue.valueError "reflectlite.Value.IsNil" 0) ReflectliteValue.isNil) args).run Tryz.prog w).andThen fun v w' => .ok (.value v) w' := @run_callFunc_extern Tryz.prog 72 _ (ReflectliteValue.method (ReflectliteValue.valueError "reflectlite.Value.IsNil" 0) ReflectliteValue.isNil) Tryz.func72 (by kernel_rfl) (by kernel_rfl) (by kernel_rfl) (by kernel_rfl) args w
theorem vElem_x (args : Array Value) (w : World) : (callFunc 103 args).run Tryz.prog w = (((ReflectliteValue.method (ReflectliteValue.valueError "reflectlite.Value.Elem" 0) ReflectliteValue.elem) args).run Tryz.prog w).andThen fun v w' => .ok (.value v) w' := @run_callFunc_extern Tryz.prog 103 _ (ReflectliteValue.method (ReflectliteValue.valueError "reflectlite.Value.Elem" 0) ReflectliteValue.elem) Tryz.func103 (by kernel_rfl) (by kernel_rfl) (by kernel_rfl) (by kernel_rfl) args w
theorem vSet_x (args : Array Value) (w : World) : (callFunc 104 args).run Tryz.prog w = (((ReflectliteValue.set) args).run Tryz.prog w).andThen fun v w' => .ok (.value v) w' := @run_callFunc_extern Tryz.prog 104 _ (ReflectliteValue.set) Tryz.func104 (by kernel_rfl) (by kernel_rfl) (by kernel_rfl) (by kernel_rfl) args w
theorem rKind_x (args : Array Value) (w : World) : (callFunc 173 args).run Tryz.prog w = (((ReflectliteType.abiMethod fun t => do pure (.int .u8 (← Rtype.kind t))) args).run Tryz.prog w).andThen fun v w' => .ok (.value v) w' := @run_callFunc_extern Tryz.prog 173 _ (ReflectliteType.abiMethod fun t => do pure (.int .u8 (← Rtype.kind t))) Tryz.func173 (by kernel_rfl) (by kernel_rfl) (by kernel_rfl) (by kernel_rfl) args w
theorem rElem_x (args : Array Value) (w : World) : (callFunc 185 args).run Tryz.prog w = (((ReflectliteType.method ReflectliteType.elem) args).run Tryz.prog w).andThen fun v w' => .ok (.value v) w' := @run_callFunc_extern Tryz.prog 185 _ (ReflectliteType.method ReflectliteType.elem) Tryz.func185 (by kernel_rfl) (by kernel_rfl) (by kernel_rfl) (by kernel_rfl) args w
theorem rImpl_x (args : Array Value) (w : World) : (callFunc 186 args).run Tryz.prog w = (((ReflectliteType.relation "Implements" ReflectliteType.implements_) args).run Tryz.prog w).andThen fun v w' => .ok (.value v) w' := @run_callFunc_extern Tryz.prog 186 _ (ReflectliteType.relation "Implements" ReflectliteType.implements_) Tryz.func186 (by kernel_rfl) (by kernel_rfl) (by kernel_rfl) (by kernel_rfl) args w
theorem kind56 (w : World) : ((ReflectliteType.abiMethod fun t => Functor.map (fun a : Nat => Value.int IntKind.u8 (a : Int)) (Rtype.kind t)) #[hd 56]).run Tryz.prog w = .ok (.int .u8 2) w := by kernel_rfl
theorem kind97 (w : World) : ((ReflectliteType.abiMethod fun t => Functor.map (fun a : Nat => Value.int IntKind.u8 (a : Int)) (Rtype.kind t)) #[hd 97]).run Tryz.prog w = .ok (.int .u8 25) w := by kernel_rfl
theorem set97 (ta b : Addr) (v v' : Value) (W : World) (hb : W.cell? b = some v) (hb' : W.cell? (b.add 1) = some v') :
  (ReflectliteValue.set #[.agg #[hd 97, .pointer (some ta), .int .u64 409], .agg #[hd 97, .pointer (some b), .int .u64 153]]).run Tryz.prog W
   = ((storeVar 97 ta (.agg #[v, v'])).run Tryz.prog W).andThen fun _ w => .ok (.tuple #[]) w := by
 have hl : (loadVar 97 b).run Tryz.prog W = .ok (.agg #[v, v']) W := by
  have h1 : (sizeOf 97).run Tryz.prog W = .ok 2 W := by kernel_rfl
  have h0 : b.add 0 = b := by simp [Addr.add]
  simp [loadVar, isAgg, underlying, Tryz.underlying97, Result.andThen, h1, loadCells, loadCellsFrom, hb, hb', h0]
 rw [rls]
 simp only [Sem.run_bind, parts97a, parts97, Result.andThen]
 simp [ReflectliteValue.flagAddr, hl, Result.andThen, direct97]
theorem kind_calls {t : TypeId} {k : Int} (h : ∀ w, ((ReflectliteType.abiMethod fun t => Functor.map (fun a : Nat => Value.int IntKind.u8 (a : Int)) (Rtype.kind t)) #[hd t]).run Tryz.prog w = .ok (.int .u8 k) w) (g d : Nat) :
  XCalls E 173 [.val (hd t)] [] g d (.val (.int .u8 k)) [] := by
 refine xcalls_pure fun w0 hA G w vs hw hvs => ?_
 obtain ⟨v, rfl, hv⟩ := vs_one hvs
 rw [V.of_val hv]
 refine ⟨.int .u8 k, ?_, .val _⟩
 rw [E_P, rKind_x]
 have := h w
 simp only [map_eq_pure_bind] at this
 rw [this]
 rfl
theorem recvKind (t : TypeId) : Recv Tryz.prog 172 "Kind" (.agg [.val (hd t)]) 173 (.val (hd t)) := fun _ w v hv => ⟨hd t, by rw [V.agg1 hv]; exact mKind _ w, .val _⟩
theorem recvElem (t : TypeId) : Recv Tryz.prog 172 "Elem" (.agg [.val (hd t)]) 185 (.agg [.val (hd t)]) := fun _ w v hv => ⟨v, by rw [V.agg1 hv]; exact mElem _ w, hv⟩
theorem recvImpl (t : TypeId) : Recv Tryz.prog 172 "Implements" (.agg [.val (hd t)]) 186 (.agg [.val (hd t)]) := fun _ w v hv => ⟨v, by rw [V.agg1 hv]; exact mImpl _ w, hv⟩
theorem elem_calls {t u : TypeId} (h : ∀ w, (ReflectliteType.method ReflectliteType.elem #[.agg #[hd t]]).run Tryz.prog w = .ok (rt u) w) (g d : Nat) :
  XCalls E 185 [.agg [.val (hd t)]] [] g d (rtD u) [] := by
 refine xcalls_pure fun w0 hA G w vs hw hvs => ?_
 obtain ⟨v, rfl, hv⟩ := vs_one hvs
 rw [V.agg1 hv]
 exact ⟨rt u, by rw [E_P, rElem_x, h]; rfl, rtV G w u⟩
theorem impl_calls {t u : TypeId} {b : Bool} (h : ∀ w, (ReflectliteType.relation "Implements" ReflectliteType.implements_ #[.agg #[hd t], rt u]).run Tryz.prog w = .ok (.bool b) w) (g d : Nat) :
  XCalls E 186 [.agg [.val (hd t)], rtD u] [] g d (dB b) [] := by
 refine xcalls_pure fun w0 hA G w vs hw hvs => ?_
 obtain ⟨v, v', rfl, hv, hv'⟩ := vs_two hvs
 rw [V.agg1 hv, ofRt hv']
 exact ⟨.bool b, by rw [E_P, rImpl_x, h]; rfl, .val _⟩
theorem valOfP95 (m : Nm) (g d : Nat) : XCalls E 70 [.iface 95 (.ptr m 0)] [] g d (valD 95 ⟨g, d, 0⟩ 150) [(⟨g, d, 0⟩, .box 95 [.ptr m 0])] := by
 refine xcalls_box fun w0 hA G w vs hw hvs => ?_
 obtain ⟨v, rfl, hv⟩ := vs_one hvs
 cases hv with
 | iface h1 =>
  cases h1 with
  | ptr hρ =>
   rename_i b
   refine ⟨#[.pointer (some ⟨b, 0, none⟩)], ?_, rfl, fun i c d hc hd => ?_⟩
   ·rw [E_P, valueOf_x]
    show ((ReflectliteValue.unpack (.iface 95 (.pointer (some ⟨b, 0, none⟩)))).run Tryz.prog w).andThen _ = _
    rw [valOf95]
    rfl
   ·match i, hc, hd with
    | 0, hc, hd => cases hc; cases hd; exact .ptr hρ
    | n + 1, hc, hd => simp at hd
theorem vType95 (n : Nm) (g d : Nat) : XCalls E 71 [valD 95 n 150] [] g d (rtD 95) [] := by
 refine xcalls_pure fun w0 hA G w vs hw hvs => ?_
 obtain ⟨v, rfl, hv⟩ := vs_one hvs
 obtain ⟨b, rfl, hρ⟩ := V.agg3 hv
 exact ⟨rt 95, by rw [E_P, vType_x, type95]; rfl, rtV G w 95⟩
theorem vIsNil95 (n m : Nm) (g d : Nat) : XCalls E 72 [valD 95 n 150] [(n, .box 95 [.ptr m 0])] g d (dB false) [(n, .box 95 [.ptr m 0])] := by
 refine xcalls_read (n := n) (t := 95) (cs := [.ptr m 0]) (by simp [Go.Ab.get]) fun w0 hA G w vs hw hvs b c hρ hh hc => ?_
 obtain ⟨v, rfl, hv⟩ := vs_one hvs
 obtain ⟨b', rfl, hρ'⟩ := V.agg3 hv
 rw [hρ] at hρ'
 cases hρ'
 have hs : c.size = 1 := hc.1
 have h0 := hc.2 0 c[0] _ (by simp [hs]) rfl
 generalize hx : c[0] = x at h0
 cases h0 with
 | ptr hq =>
  rename_i q
  have hcell : w.cell? ⟨b, 0, none⟩ = some (.pointer (some ⟨q, 0, none⟩)) := by
   simp [World.cell?, hh, hs, hx]
  exact ⟨.bool false, by rw [E_P, vIsNil_x, isNil95 _ _ _ hcell]; rfl, .val _⟩
theorem vElem95 (n m : Nm) (g d : Nat) : XCalls E 103 [valD 95 n 150] [(n, .box 95 [.ptr m 0])] g d (valD 56 m 386) [(n, .box 95 [.ptr m 0])] := by
 refine xcalls_read (n := n) (t := 95) (cs := [.ptr m 0]) (by simp [Go.Ab.get]) fun w0 hA G w vs hw hvs b c hρ hh hc => ?_
 obtain ⟨v, rfl, hv⟩ := vs_one hvs
 obtain ⟨b', rfl, hρ'⟩ := V.agg3 hv
 rw [hρ] at hρ'
 cases hρ'
 have hs : c.size = 1 := hc.1
 have h0 := hc.2 0 c[0] _ (by simp [hs]) rfl
 generalize hx : c[0] = x at h0
 cases h0 with
 | ptr hq =>
  rename_i q
  have hcell : w.cell? ⟨b, 0, none⟩ = some (.pointer (some ⟨q, 0, none⟩)) := by
   simp [World.cell?, hh, hs, hx]
  refine ⟨_, by rw [E_P, vElem_x, elemV95 _ _ _ hcell]; rfl, .agg rfl fun i c d hc hd => ?_⟩
  match i, hc, hd with
  | 0, hc, hd => cases hc; cases hd; exact .val _
  | 1, hc, hd => cases hc; cases hd; exact .ptr hq
  | 2, hc, hd => cases hc; cases hd; exact .val _
  | n + 3, hc, hd => simp at hd
theorem valOfP98 (m : Nm) (g d : Nat) : XCalls E 70 [.iface 98 (.ptr m 0)] [] g d (valD 98 ⟨g, d, 0⟩ 150) [(⟨g, d, 0⟩, .box 98 [.ptr m 0])] := by
 refine xcalls_box fun w0 hA G w vs hw hvs => ?_
 obtain ⟨v, rfl, hv⟩ := vs_one hvs
 cases hv with
 | iface h1 =>
  cases h1 with
  | ptr hρ =>
   rename_i b
   refine ⟨#[.pointer (some ⟨b, 0, none⟩)], ?_, rfl, fun i c d hc hd => ?_⟩
   ·rw [E_P, valueOf_x]
    show ((ReflectliteValue.unpack (.iface 98 (.pointer (some ⟨b, 0, none⟩)))).run Tryz.prog w).andThen _ = _
    rw [valOf98]
    rfl
   ·match i, hc, hd with
    | 0, hc, hd => cases hc; cases hd; exact .ptr hρ
    | n + 1, hc, hd => simp at hd
theorem vType98 (n : Nm) (g d : Nat) : XCalls E 71 [valD 98 n 150] [] g d (rtD 98) [] := by
 refine xcalls_pure fun w0 hA G w vs hw hvs => ?_
 obtain ⟨v, rfl, hv⟩ := vs_one hvs
 obtain ⟨b, rfl, hρ⟩ := V.agg3 hv
 exact ⟨rt 98, by rw [E_P, vType_x, type98]; rfl, rtV G w 98⟩
theorem vIsNil98 (n m : Nm) (g d : Nat) : XCalls E 72 [valD 98 n 150] [(n, .box 98 [.ptr m 0])] g d (dB false) [(n, .box 98 [.ptr m 0])] := by
 refine xcalls_read (n := n) (t := 98) (cs := [.ptr m 0]) (by simp [Go.Ab.get]) fun w0 hA G w vs hw hvs b c hρ hh hc => ?_
 obtain ⟨v, rfl, hv⟩ := vs_one hvs
 obtain ⟨b', rfl, hρ'⟩ := V.agg3 hv
 rw [hρ] at hρ'
 cases hρ'
 have hs : c.size = 1 := hc.1
 have h0 := hc.2 0 c[0] _ (by simp [hs]) rfl
 generalize hx : c[0] = x at h0
 cases h0 with
 | ptr hq =>
  rename_i q
  have hcell : w.cell? ⟨b, 0, none⟩ = some (.pointer (some ⟨q, 0, none⟩)) := by
   simp [World.cell?, hh, hs, hx]
  exact ⟨.bool false, by rw [E_P, vIsNil_x, isNil98 _ _ _ hcell]; rfl, .val _⟩
theorem vElem98 (n m : Nm) (g d : Nat) : XCalls E 103 [valD 98 n 150] [(n, .box 98 [.ptr m 0])] g d (valD 97 m 409) [(n, .box 98 [.ptr m 0])] := by
 refine xcalls_read (n := n) (t := 98) (cs := [.ptr m 0]) (by simp [Go.Ab.get]) fun w0 hA G w vs hw hvs b c hρ hh hc => ?_
 obtain ⟨v, rfl, hv⟩ := vs_one hvs
 obtain ⟨b', rfl, hρ'⟩ := V.agg3 hv
 rw [hρ] at hρ'
 cases hρ'
 have hs : c.size = 1 := hc.1
 have h0 := hc.2 0 c[0] _ (by simp [hs]) rfl
 generalize hx : c[0] = x at h0
 cases h0 with
 | ptr hq =>
  rename_i q
  have hcell : w.cell? ⟨b, 0, none⟩ = some (.pointer (some ⟨q, 0, none⟩)) := by
   simp [World.cell?, hh, hs, hx]
  refine ⟨_, by rw [E_P, vElem_x, elemV98 _ _ _ hcell]; rfl, .agg rfl fun i c d hc hd => ?_⟩
  match i, hc, hd with
  | 0, hc, hd => cases hc; cases hd; exact .val _
  | 1, hc, hd => cases hc; cases hd; exact .ptr hq
  | 2, hc, hd => cases hc; cases hd; exact .val _
  | n + 3, hc, hd => simp at hd
theorem valOfC (x : Int) (g d : Nat) : XCalls E 70 [.iface 56 (dI x)] [] g d (valD 56 ⟨g, d, 0⟩ 130) [(⟨g, d, 0⟩, .box 56 [dI x])] := by
 refine xcalls_box fun w0 hA G w vs hw hvs => ?_
 obtain ⟨v, rfl, hv⟩ := vs_one hvs
 cases hv with
 | iface h1 =>
  rw [V.of_val h1]
  refine ⟨#[.int .i64 x], ?_, rfl, fun i c d hc hd => ?_⟩
  ·rw [E_P, valueOf_x]
   show ((ReflectliteValue.unpack (.iface 56 (.int .i64 x))).run Tryz.prog w).andThen _ = _
   rw [valOf56]
   rfl
  ·match i, hc, hd with
   | 0, hc, hd => cases hc; cases hd; exact .val _
   | n + 1, hc, hd => simp at hd
theorem valOfF (x y : Int) (g d : Nat) : XCalls E 70 [.iface 97 (.agg [dI x, dI y])] [] g d (valD 97 ⟨g, d, 0⟩ 153) [(⟨g, d, 0⟩, .box 97 [dI x, dI y])] := by
 refine xcalls_box fun w0 hA G w vs hw hvs => ?_
 obtain ⟨v, rfl, hv⟩ := vs_one hvs
 cases hv with
 | iface h1 =>
  cases h1 with
  | agg h2 h3 =>
   obtain ⟨u, u', rfl, hu, hu'⟩ := vs_two ⟨h2, h3⟩
   rw [V.of_val hu, V.of_val hu']
   refine ⟨#[.int .i64 x, .int .i64 y], ?_, rfl, fun i c d hc hd => ?_⟩
   ·rw [E_P, valueOf_x]
    show ((ReflectliteValue.unpack (.iface 97 (.agg #[.int .i64 x, .int .i64 y]))).run Tryz.prog w).andThen _ = _
    rw [valOf97]
    rfl
   ·match i, hc, hd with
    | 0, hc, hd => cases hc; cases hd; exact .val _
    | 1, hc, hd => cases hc; cases hd; exact .val _
    | n + 2, hc, hd => simp at hd
theorem arr1 {c : Array Value} (h : c.size = 1) : ∃ x, c = #[x] := ⟨c[0], Array.ext (by simp [h]) fun i h1 h2 => by
 have : i = 0 := by omega
 subst this; rfl⟩
theorem arr2 {c : Array Value} (h : c.size = 2) : ∃ x y, c = #[x, y] := ⟨c[0], c[1], Array.ext (by simp [h]) fun i h1 h2 => by
 match i, h1 with
 | 0, _ => rfl
 | 1, _ => rfl
 | n + 2, h1 => exact absurd h1 (by omega)⟩
theorem vSetC {m k : Nm} (hmk : m ≠ k) (o : D) (x : Int) (g d : Nat) : XCalls E 104 [valD 56 m 386, valD 56 k 130] [(m, .box 56 [o]), (k, .box 56 [dI x])] g d (.tup []) [(m, .box 56 [dI x]), (k, .box 56 [dI x])] := by
 refine xcalls_set (fun c => c.getD 0 undef) hmk rfl sz56 rfl (fun G w c hc => ?_) (fun a b c w hh hc => ?_)
 ·obtain ⟨v, rfl, hv⟩ := vs_one hc
  rw [show v = _ from V.of_val hv]
  rfl
 ·obtain ⟨x, rfl⟩ := arr1 hc
  rw [E_P, vSet_x, set56 _ _ x w (by simp [World.cell?, hh])]
  show Result.andThen (Result.andThen ((storeVar 56 ⟨a, 0, none⟩ x).run Tryz.prog w) _) _ = Result.andThen ((storeVar 56 ⟨a, 0, none⟩ x).run Tryz.prog w) _
  generalize (storeVar 56 ⟨a, 0, none⟩ x).run Tryz.prog w = r
  cases r <;> rfl
theorem vSetF {m k : Nm} (hmk : m ≠ k) (o o' : D) (x y : Int) (g d : Nat) : XCalls E 104 [valD 97 m 409, valD 97 k 153] [(m, .box 97 [o, o']), (k, .box 97 [dI x, dI y])] g d (.tup []) [(m, .box 97 [dI x, dI y]), (k, .box 97 [dI x, dI y])] := by
 refine xcalls_set (fun c => .agg c) hmk rfl sz97 rfl (fun _ _ c _ => rfl) (fun a b c w hh hc => ?_)
 obtain ⟨x, y, rfl⟩ := arr2 hc
 rw [E_P, vSet_x, set97 _ _ x y w (by simp [World.cell?, hh]) (by simp [World.cell?, Addr.add, hh])]
 generalize (storeVar 97 ⟨a, 0, none⟩ (.agg #[x, y])).run Tryz.prog w = r
 cases r <;> rfl
end Go.Proofs.T
namespace Go.Proofs.T
open Go Go.Ab Go.RowKit Go.Extern.Stop Go.Stop Go.Extern
abbrev fD (c a : Int) : D := .iface 97 (.agg [dI c, dI a])
set_option maxRecDepth 100000 in
theorem as_F (c a : Int) (p q : Nat) (g d : Nat) : ACalls E 73 [fD c a, .iface 98 (.ptr ⟨q, 4, 0⟩ 0), valD 98 ⟨p, 14, 0⟩ 150, rtD 97]
  [(⟨p, 14, 0⟩, .box 98 [.ptr ⟨q, 4, 0⟩ 0]), (⟨q, 4, 0⟩, .box 97 [dI 0, dI 0])] g d (dB true) [(⟨p, 14, 0⟩, .box 98 [.ptr ⟨q, 4, 0⟩ 0]), (⟨q, 4, 0⟩, .box 97 [dI c, dI a])] := by
 refine acalls_of_awp (fn := Tryz.f73) (N := 62) Tryz.call73 Tryz.func73 rfl rfl (by simp) ?_
 simp only [go_sem]
 refine awp_seq_k (fun K1 hK1 => ?_)
 refine awp_plain 2 (by kernel_rfl) rfl (fun g0 hg0 => ?_)
 simp only [go_sem, hd]
 refine hK1 _ ?_
 refine awp_block ?_
 refine awp_loop (fun m s => m = 0 ∧ Le { env := [(0, fD c a), (1, .iface 98 (.ptr ⟨q, 4, 0⟩ 0)), (3, rtD 97), (6, .ptr ⟨g0, 6, 0⟩ 0)], σ := [(⟨g0, 6, 0⟩, .box 126 (valD 98 ⟨p, 14, 0⟩ 150).cells), (⟨p, 14, 0⟩, .box 98 [.ptr ⟨q, 4, 0⟩ 0]), (⟨q, 4, 0⟩, .box 97 [dI 0, dI 0])] } s) 0 ?_ ?_
 ·refine ⟨rfl, le_of ?_⟩
  simp only [go_sem, hd]
  try trivial
 ·rintro m s ⟨rfl, hle⟩
  refine awp_keep hle ?_
  clear hle
  refine awp_block ?_
  refine awp_seq_k (fun K2 hK2 => ?_)
  refine awp_seq_k (fun K3 hK3 => ?_)
  refine awp_ops (by kernel_rfl) rfl (fun g1 hg1 ops1 KR1 hops1 hKR1 => ?_)
  refine aops_eval 1 hops1 ?_
  simp only [go_sem, hd]
  refine aops_entry0 hops1 rfl rfl (leads_fn rfl rfl rfl) (typeOf_calls typeOf97 _ _ _) (CoL.refl _) ?_
  refine aops_eval 1 hops1 ?_
  simp only [go_sem]
  refine aops_entry0 hops1 rfl rfl (leads_method rfl rfl rfl (recvAsg _)) (asg_calls asg97_97 _ _) (CoL.refl _) ?_
  refine aops_last 0 hops1 ?_
  simp only [go_sem]
  refine hKR1 _ ?_
  refine hK3 _ ?_
  refine awp_t rfl ?_
  refine awp_seq_k (fun K4 hK4 => ?_)
  refine awp_ops (by kernel_rfl) rfl (fun g2 hg2 ops2 KR2 hops2 hKR2 => ?_)
  refine aops_eval 1 hops2 ?_
  simp only [go_sem]
  refine aops_entry hops2 rfl rfl (leads_fn rfl rfl rfl) (vElem98 ⟨p, 14, 0⟩ ⟨q, 4, 0⟩ _ _) (CoL.refl _) (by simp [go_sem]) ?_
  refine aops_eval 1 hops2 ?_
  simp only [go_sem]
  refine aops_entry0 hops2 rfl rfl (leads_fn rfl rfl rfl) (valOfF _ _ _ _) (CoL.refl _) ?_
  refine aops_entry hops2 rfl rfl (leads_fn rfl rfl rfl) (vSetF (m := ⟨q, 4, 0⟩) (k := ⟨g2, 23, 0⟩) (by simp) (dI 0) (dI 0) c a _ _) (CoL.refl _) (by simp [go_sem]) ?_
  refine aops_last 0 hops2 ?_
  simp only [go_sem]
  refine hKR2 _ ?_
  refine hK4 _ ?_
  refine awp_seq_k (fun K5 hK5 => ?_)
  refine awp_plain 1 (by kernel_rfl) rfl (fun g3 hg3 => ?_)
  simp only [go_sem]
  refine hK5 _ ?_
  refine awp_ret ?_
  refine ends_keep rfl (by simp [go_sem]) ?_
  simp only [go_sem]
  exact Co.refl _
set_option maxRecDepth 100000 in
theorem as_CF (c a : Int) (p q : Nat) (g d : Nat) : ACalls E 73 [fD c a, .iface 95 (.ptr ⟨q, 4, 0⟩ 0), valD 95 ⟨p, 14, 0⟩ 150, rtD 56]
  [(⟨p, 14, 0⟩, .box 95 [.ptr ⟨q, 4, 0⟩ 0]), (⟨q, 4, 0⟩, .box 56 [dI 0])] g d (dB true) [(⟨p, 14, 0⟩, .box 95 [.ptr ⟨q, 4, 0⟩ 0]), (⟨q, 4, 0⟩, .box 56 [dI c])] := by
 refine acalls_of_awp (fn := Tryz.f73) (N := 62) Tryz.call73 Tryz.func73 rfl rfl (by simp) ?_
 simp only [go_sem]
 refine awp_seq_k (fun K1 hK1 => ?_)
 refine awp_plain 2 (by kernel_rfl) rfl (fun g0 hg0 => ?_)
 simp only [go_sem, hd]
 refine hK1 _ ?_
 refine awp_block ?_
 refine awp_loop (fun m s => ∃ X, ((X = fD c a ∧ m = 1) ∨ (X = .iface 56 (dI c) ∧ m = 0)) ∧ Le { env := [(0, X), (1, .iface 95 (.ptr ⟨q, 4, 0⟩ 0)), (3, rtD 56), (6, .ptr ⟨g0, 6, 0⟩ 0)], σ := [(⟨g0, 6, 0⟩, .box 126 (valD 95 ⟨p, 14, 0⟩ 150).cells), (⟨p, 14, 0⟩, .box 95 [.ptr ⟨q, 4, 0⟩ 0]), (⟨q, 4, 0⟩, .box 56 [dI 0])] } s) 1 ?_ ?_
 ·refine ⟨_, .inl ⟨rfl, rfl⟩, le_of ?_⟩
  simp only [go_sem, hd]
  try trivial
 ·rintro m s ⟨X, hX, hle⟩
  refine awp_keep hle ?_
  clear hle
  refine awp_block ?_
  refine awp_seq_k (fun K2 hK2 => ?_)
  refine awp_seq_k (fun K3 hK3 => ?_)
  rcases hX with ⟨rfl, rfl⟩ | ⟨rfl, rfl⟩
  ·refine awp_ops (by kernel_rfl) rfl (fun g1 hg1 ops1 KR1 hops1 hKR1 => ?_)
   refine aops_eval 1 hops1 ?_
   simp only [go_sem, hd]
   refine aops_entry0 hops1 rfl rfl (leads_fn rfl rfl rfl) (typeOf_calls typeOf97 _ _ _) (CoL.refl _) ?_
   refine aops_eval 1 hops1 ?_
   simp only [go_sem]
   refine aops_entry0 hops1 rfl rfl (leads_method rfl rfl rfl (recvAsg _)) (asg_calls asg97_56 _ _) (CoL.refl _) ?_
   refine aops_last 0 hops1 ?_
   simp only [go_sem]
   refine hKR1 _ ?_
   refine hK3 _ ?_
   refine awp_f rfl ?_
   refine awp_skip ?_
   refine hK2 _ ?_
   refine awp_seq_k (fun K4 hK4 => ?_)
   refine awp_seq_k (fun K5 hK5 => ?_)
   refine awp_ops (by kernel_rfl) rfl (fun g4 hg4 ops4 KR4 hops4 hKR4 => ?_)
   refine aops_eval 1 hops4 ?_
   simp only [go_sem]
   refine aops_lacks hops4 rfl rfl rfl rfl (noAs97) ?_
   refine aops_last 5 hops4 ?_
   simp only [go_sem]
   refine hKR4 _ ?_
   refine hK5 _ ?_
   refine awp_seq_k (fun K6 hK6 => ?_)
   refine awp_plain 6 (by kernel_rfl) rfl (fun g5 hg5 => ?_)
   simp only [go_sem]
   refine hK6 _ ?_
   refine awp_f rfl ?_
   refine awp_skip ?_
   refine hK4 _ ?_
   refine awp_seq_k (fun K7 hK7 => ?_)
   refine awp_plain 1 (by kernel_rfl) rfl (fun g7 hg7 => ?_)
   simp only [go_sem]
   refine hK7 _ ?_
   refine awp_block ?_
   refine awp_seq_k (fun K8 hK8 => ?_)
   refine awp_ops (by kernel_rfl) rfl (fun g10 hg10 ops10 KR10 hops10 hKR10 => ?_)
   refine aops_eval 0 hops10 ?_
   simp only [go_sem]
   refine aops_has hops10 rfl rfl rfl rfl (hasUn97) ?_
   refine aops_last 2 hops10 ?_
   simp only [go_sem]
   refine hKR10 _ ?_
   refine hK8 _ ?_
   refine awp_t rfl ?_
   refine awp_seq_k (fun K9 hK9 => ?_)
   refine awp_plain 1 (by kernel_rfl) rfl (fun g11 hg11 => ?_)
   simp only [go_sem]
   refine hK9 _ ?_
   refine awp_seq_k (fun K10 hK10 => ?_)
   refine awp_ops (by kernel_rfl) rfl (fun g12 hg12 ops12 KR12 hops12 hKR12 => ?_)
   refine aops_eval 1 hops12 ?_
   simp only [go_sem]
   refine aops_inv0 hops12 rfl rfl (leads_method rfl rfl rfl (Recv.same u97 _)) (unwrapF_calls c a _ _) (CoL.refl _) ?_
   refine aops_last 1 hops12 ?_
   simp only [go_sem]
   refine hKR12 _ ?_
   refine hK10 _ ?_
   refine awp_seq_k (fun K11 hK11 => ?_)
   refine awp_plain 2 (by kernel_rfl) rfl (fun g13 hg13 => ?_)
   simp only [go_sem]
   refine hK11 _ ?_
   refine awp_f rfl ?_
   refine awp_skip ?_
   refine ⟨_, ?_, _, .inr ⟨rfl, rfl⟩, le_of ?_⟩
   ·simp
   simp only [go_sem, hd]
   try trivial
  ·refine awp_ops (by kernel_rfl) rfl (fun g1 hg1 ops1 KR1 hops1 hKR1 => ?_)
   refine aops_eval 1 hops1 ?_
   simp only [go_sem, hd]
   refine aops_entry0 hops1 rfl rfl (leads_fn rfl rfl rfl) (typeOf_calls typeOf56 _ _ _) (CoL.refl _) ?_
   refine aops_eval 1 hops1 ?_
   simp only [go_sem]
   refine aops_entry0 hops1 rfl rfl (leads_method rfl rfl rfl (recvAsg _)) (asg_calls asg56_56 _ _) (CoL.refl _) ?_
   refine aops_last 0 hops1 ?_
   simp only [go_sem]
   refine hKR1 _ ?_
   refine hK3 _ ?_
   refine awp_t rfl ?_
   refine awp_seq_k (fun K12 hK12 => ?_)
   refine awp_ops (by kernel_rfl) rfl (fun g2 hg2 ops2 KR2 hops2 hKR2 => ?_)
   refine aops_eval 1 hops2 ?_
   simp only [go_sem]
   refine aops_entry hops2 rfl rfl (leads_fn rfl rfl rfl) (vElem95 ⟨p, 14, 0⟩ ⟨q, 4, 0⟩ _ _) (CoL.refl _) (by simp [go_sem]) ?_
   refine aops_eval 1 hops2 ?_
   simp only [go_sem]
   refine aops_entry0 hops2 rfl rfl (leads_fn rfl rfl rfl) (valOfC _ _ _) (CoL.refl _) ?_
   refine aops_entry hops2 rfl rfl (leads_fn rfl rfl rfl) (vSetC (m := ⟨q, 4, 0⟩) (k := ⟨g2, 23, 0⟩) (by simp) (dI 0) c _ _) (CoL.refl _) (by simp [go_sem]) ?_
   refine aops_last 0 hops2 ?_
   simp only [go_sem]
   refine hKR2 _ ?_
   refine hK12 _ ?_
   refine awp_seq_k (fun K13 hK13 => ?_)
   refine awp_plain 1 (by kernel_rfl) rfl (fun g3 hg3 => ?_)
   simp only [go_sem]
   refine hK13 _ ?_
   refine awp_ret ?_
   refine ends_keep rfl (by simp [go_sem]) ?_
   simp only [go_sem]
   exact Co.refl _
set_option maxRecDepth 100000 in
theorem As_CF (c a : Int) (q : Nat) (g d : Nat) : ACalls E 48 [fD c a, .iface 95 (.ptr ⟨q, 4, 0⟩ 0)] [(⟨q, 4, 0⟩, .box 56 [dI 0])] g d (dB true) [(⟨q, 4, 0⟩, .box 56 [dI c])] := by
 refine acalls_of_awp (fn := Tryz.f48) (N := 42) Tryz.call48 Tryz.func48 rfl rfl (by simp) ?_
 simp only [go_sem]
 refine awp_seq_k (fun K1 hK1 => ?_)
 refine awp_plain 1 (by kernel_rfl) rfl (fun g0 hg0 => ?_)
 simp only [go_sem]
 refine hK1 _ ?_
 refine awp_seq_k (fun K2 hK2 => ?_)
 refine awp_seq_k (fun K3 hK3 => ?_)
 refine awp_plain 2 (by kernel_rfl) rfl (fun g1 hg1 => ?_)
 simp only [go_sem]
 refine hK3 _ ?_
 refine awp_f rfl ?_
 refine awp_skip ?_
 refine hK2 _ ?_
 refine awp_seq_k (fun K4 hK4 => ?_)
 refine awp_seq_k (fun K5 hK5 => ?_)
 refine awp_plain 2 (by kernel_rfl) rfl (fun g3 hg3 => ?_)
 simp only [go_sem]
 refine hK5 _ ?_
 refine awp_f rfl ?_
 refine awp_skip ?_
 refine hK4 _ ?_
 refine awp_seq_k (fun K6 hK6 => ?_)
 refine awp_ops (by kernel_rfl) rfl (fun g5 hg5 ops5 KR5 hops5 hKR5 => ?_)
 refine aops_eval 1 hops5 ?_
 simp only [go_sem]
 refine aops_entry0 hops5 rfl rfl (leads_fn rfl rfl rfl) (valOfP95 ⟨q, 4, 0⟩ _ _) (CoL.refl _) ?_
 refine aops_last 2 hops5 ?_
 simp only [go_sem, hd]
 refine hKR5 _ ?_
 refine hK6 _ ?_
 refine awp_seq_k (fun K7 hK7 => ?_)
 refine awp_ops (by kernel_rfl) rfl (fun g6 hg6 ops6 KR6 hops6 hKR6 => ?_)
 refine aops_eval 1 hops6 ?_
 simp only [go_sem]
 refine aops_entry0 hops6 rfl rfl (leads_fn rfl rfl rfl) (vType95 ⟨g5, 14, 0⟩ _ _) (CoL.refl _) ?_
 refine aops_last 1 hops6 ?_
 simp only [go_sem, hd, rtD]
 refine hKR6 _ ?_
 refine hK7 _ ?_
 refine awp_seq_k (fun K8 hK8 => ?_)
 refine awp_seq_k (fun K9 hK9 => ?_)
 refine awp_ops (by kernel_rfl) rfl (fun g7 hg7 ops7 KR7 hops7 hKR7 => ?_)
 refine aops_eval 1 hops7 ?_
 simp only [go_sem]
 refine aops_entry0 hops7 rfl rfl (leads_method rfl rfl rfl (recvKind _)) (kind_calls kind95 _ _) (CoL.refl _) ?_
 refine aops_eval 3 hops7 ?_
 simp only [go_sem]
 refine aops_entry hops7 rfl rfl (leads_fn rfl rfl rfl) (vIsNil95 ⟨g5, 14, 0⟩ ⟨q, 4, 0⟩ _ _) (CoL.refl _) (by simp [go_sem]) ?_
 refine aops_last 1 hops7 ?_
 simp only [go_sem]
 refine hKR7 _ ?_
 refine hK9 _ ?_
 refine awp_f rfl ?_
 refine awp_skip ?_
 refine hK8 _ ?_
 refine awp_seq_k (fun K10 hK10 => ?_)
 refine awp_ops (by kernel_rfl) rfl (fun g9 hg9 ops9 KR9 hops9 hKR9 => ?_)
 refine aops_eval 1 hops9 ?_
 simp only [go_sem]
 refine aops_entry0 hops9 rfl rfl (leads_method rfl rfl rfl (recvElem _)) (elem_calls elem95 _ _) (CoL.refl _) ?_
 refine aops_last 1 hops9 ?_
 simp only [go_sem, hd, rtD]
 refine hKR9 _ ?_
 refine hK10 _ ?_
 refine awp_seq_k (fun K11 hK11 => ?_)
 refine awp_seq_k (fun K12 hK12 => ?_)
 refine awp_ops (by kernel_rfl) rfl (fun g10 hg10 ops10 KR10 hops10 hKR10 => ?_)
 refine aops_eval 1 hops10 ?_
 simp only [go_sem]
 refine aops_entry0 hops10 rfl rfl (leads_method rfl rfl rfl (recvKind _)) (kind_calls kind56 _ _) (CoL.refl _) ?_
 refine aops_eval 4 hops10 ?_
 simp only [go_sem, errT]
 refine aops_entry0 hops10 rfl rfl (leads_method rfl rfl rfl (recvImpl _)) (impl_calls impl56 _ _) (CoL.refl _) ?_
 refine aops_last 2 hops10 ?_
 simp only [go_sem]
 refine hKR10 _ ?_
 refine hK12 _ ?_
 refine awp_f rfl ?_
 refine awp_skip ?_
 refine hK11 _ ?_
 refine awp_seq_k (fun K13 hK13 => ?_)
 refine awp_ops (by kernel_rfl) rfl (fun g12 hg12 ops12 KR12 hops12 hKR12 => ?_)
 refine aops_eval 4 hops12 ?_
 simp only [go_sem]
 refine aops_call hops12 rfl rfl rfl (as_CF c a g5 q _ _) (CoL.refl _) (by simp [go_sem]) ?_
 refine aops_last 1 hops12 ?_
 simp only [go_sem]
 refine hKR12 _ ?_
 refine hK13 _ ?_
 refine awp_ret ?_
 refine ends_keep rfl (by simp [go_sem]) ?_
 simp only [go_sem]
 exact Co.refl _
set_option maxRecDepth 100000 in
theorem As_F (c a : Int) (q : Nat) (g d : Nat) : ACalls E 48 [fD c a, .iface 98 (.ptr ⟨q, 4, 0⟩ 0)] [(⟨q, 4, 0⟩, .box 97 [dI 0, dI 0])] g d (dB true) [(⟨q, 4, 0⟩, .box 97 [dI c, dI a])] := by
 refine acalls_of_awp (fn := Tryz.f48) (N := 42) Tryz.call48 Tryz.func48 rfl rfl (by simp) ?_
 simp only [go_sem]
 refine awp_seq_k (fun K1 hK1 => ?_)
 refine awp_plain 1 (by kernel_rfl) rfl (fun g0 hg0 => ?_)
 simp only [go_sem]
 refine hK1 _ ?_
 refine awp_seq_k (fun K2 hK2 => ?_)
 refine awp_seq_k (fun K3 hK3 => ?_)
 refine awp_plain 2 (by kernel_rfl) rfl (fun g1 hg1 => ?_)
 simp only [go_sem]
 refine hK3 _ ?_
 refine awp_f rfl ?_
 refine awp_skip ?_
 refine hK2 _ ?_
 refine awp_seq_k (fun K4 hK4 => ?_)
 refine awp_seq_k (fun K5 hK5 => ?_)
 refine awp_plain 2 (by kernel_rfl) rfl (fun g3 hg3 => ?_)
 simp only [go_sem]
 refine hK5 _ ?_
 refine awp_f rfl ?_
 refine awp_skip ?_
 refine hK4 _ ?_
 refine awp_seq_k (fun K6 hK6 => ?_)
 refine awp_ops (by kernel_rfl) rfl (fun g5 hg5 ops5 KR5 hops5 hKR5 => ?_)
 refine aops_eval 1 hops5 ?_
 simp only [go_sem]
 refine aops_entry0 hops5 rfl rfl (leads_fn rfl rfl rfl) (valOfP98 ⟨q, 4, 0⟩ _ _) (CoL.refl _) ?_
 refine aops_last 2 hops5 ?_
 simp only [go_sem, hd]
 refine hKR5 _ ?_
 refine hK6 _ ?_
 refine awp_seq_k (fun K7 hK7 => ?_)
 refine awp_ops (by kernel_rfl) rfl (fun g6 hg6 ops6 KR6 hops6 hKR6 => ?_)
 refine aops_eval 1 hops6 ?_
 simp only [go_sem]
 refine aops_entry0 hops6 rfl rfl (leads_fn rfl rfl rfl) (vType98 ⟨g5, 14, 0⟩ _ _) (CoL.refl _) ?_
 refine aops_last 1 hops6 ?_
 simp only [go_sem, hd, rtD]
 refine hKR6 _ ?_
 refine hK7 _ ?_
 refine awp_seq_k (fun K8 hK8 => ?_)
 refine awp_seq_k (fun K9 hK9 => ?_)
 refine awp_ops (by kernel_rfl) rfl (fun g7 hg7 ops7 KR7 hops7 hKR7 => ?_)
 refine aops_eval 1 hops7 ?_
 simp only [go_sem]
 refine aops_entry0 hops7 rfl rfl (leads_method rfl rfl rfl (recvKind _)) (kind_calls kind98 _ _) (CoL.refl _) ?_
 refine aops_eval 3 hops7 ?_
 simp only [go_sem]
 refine aops_entry hops7 rfl rfl (leads_fn rfl rfl rfl) (vIsNil98 ⟨g5, 14, 0⟩ ⟨q, 4, 0⟩ _ _) (CoL.refl _) (by simp [go_sem]) ?_
 refine aops_last 1 hops7 ?_
 simp only [go_sem]
 refine hKR7 _ ?_
 refine hK9 _ ?_
 refine awp_f rfl ?_
 refine awp_skip ?_
 refine hK8 _ ?_
 refine awp_seq_k (fun K10 hK10 => ?_)
 refine awp_ops (by kernel_rfl) rfl (fun g9 hg9 ops9 KR9 hops9 hKR9 => ?_)
 refine aops_eval 1 hops9 ?_
 simp only [go_sem]
 refine aops_entry0 hops9 rfl rfl (leads_method rfl rfl rfl (recvElem _)) (elem_calls elem98 _ _) (CoL.refl _) ?_
 refine aops_last 1 hops9 ?_
 simp only [go_sem, hd, rtD]
 refine hKR9 _ ?_
 refine hK10 _ ?_
 refine awp_seq_k (fun K11 hK11 => ?_)
 refine awp_seq_k (fun K12 hK12 => ?_)
 refine awp_ops (by kernel_rfl) rfl (fun g10 hg10 ops10 KR10 hops10 hKR10 => ?_)
 refine aops_eval 1 hops10 ?_
 simp only [go_sem]
 refine aops_entry0 hops10 rfl rfl (leads_method rfl rfl rfl (recvKind _)) (kind_calls kind97 _ _) (CoL.refl _) ?_
 refine aops_eval 4 hops10 ?_
 simp only [go_sem, errT]
 refine aops_entry0 hops10 rfl rfl (leads_method rfl rfl rfl (recvImpl _)) (impl_calls impl97 _ _) (CoL.refl _) ?_
 refine aops_last 2 hops10 ?_
 simp only [go_sem]
 refine hKR10 _ ?_
 refine hK12 _ ?_
 refine awp_f rfl ?_
 refine awp_skip ?_
 refine hK11 _ ?_
 refine awp_seq_k (fun K13 hK13 => ?_)
 refine awp_ops (by kernel_rfl) rfl (fun g12 hg12 ops12 KR12 hops12 hKR12 => ?_)
 refine aops_eval 4 hops12 ?_
 simp only [go_sem]
 refine aops_call hops12 rfl rfl rfl (as_F c a g5 q _ _) (CoL.refl _) (by simp [go_sem]) ?_
 refine aops_last 1 hops12 ?_
 simp only [go_sem]
 refine hKR12 _ ?_
 refine hK13 _ ?_
 refine awp_ret ?_
 refine ends_keep rfl (by simp [go_sem]) ?_
 simp only [go_sem]
 exact Co.refl _
theorem codeF_calls (c a : Int) (g d : Nat) : ACalls E 23 [fD c a] [] g d (.tup [dI c, dB true]) [] := by
 refine acalls_of_awp (fn := Tryz.f23) (N := 11) Tryz.call23 Tryz.func23 rfl rfl (by simp) ?_
 simp only [go_sem]
 refine awp_seq_k (fun K1 hK1 => ?_)
 refine awp_plain 2 (by kernel_rfl) rfl (fun g0 hg0 => ?_)
 simp only [go_sem]
 refine hK1 _ ?_
 refine awp_seq_k (fun K2 hK2 => ?_)
 refine awp_plain 1 (by kernel_rfl) rfl (fun g1 hg1 => ?_)
 simp only [go_sem]
 refine hK2 _ ?_
 refine awp_seq_k (fun K3 hK3 => ?_)
 refine awp_ops (by kernel_rfl) rfl (fun g2 hg2 ops2 KR2 hops2 hKR2 => ?_)
 refine aops_eval 2 hops2 ?_
 simp only [go_sem]
 refine aops_call hops2 rfl rfl rfl (As_CF c a g1 _ _) (CoL.refl _) (by simp [go_sem]) ?_
 refine aops_last 1 hops2 ?_
 simp only [go_sem]
 refine hKR2 _ ?_
 refine hK3 _ ?_
 refine awp_seq_k (fun K4 hK4 => ?_)
 refine awp_plain 4 (by kernel_rfl) rfl (fun g3 hg3 => ?_)
 simp only [go_sem]
 refine hK4 _ ?_
 refine awp_ret ?_
 refine ends_ev rfl ?_
 simp only [go_sem]
 exact Co.refl _
theorem atF_calls (c a : Int) (g d : Nat) : ACalls E 24 [fD c a] [] g d (.tup [dI a, dB true]) [] := by
 refine acalls_of_awp (fn := Tryz.f24) (N := 12) Tryz.call24 Tryz.func24 rfl rfl (by simp) ?_
 simp only [go_sem]
 refine awp_seq_k (fun K1 hK1 => ?_)
 refine awp_plain 2 (by kernel_rfl) rfl (fun g0 hg0 => ?_)
 simp only [go_sem]
 refine hK1 _ ?_
 refine awp_seq_k (fun K2 hK2 => ?_)
 refine awp_plain 1 (by kernel_rfl) rfl (fun g1 hg1 => ?_)
 simp only [go_sem]
 refine hK2 _ ?_
 refine awp_seq_k (fun K3 hK3 => ?_)
 refine awp_ops (by kernel_rfl) rfl (fun g2 hg2 ops2 KR2 hops2 hKR2 => ?_)
 refine aops_eval 2 hops2 ?_
 simp only [go_sem]
 refine aops_call hops2 rfl rfl rfl (As_F c a g1 _ _) (CoL.refl _) (by simp [go_sem]) ?_
 refine aops_last 1 hops2 ?_
 simp only [go_sem]
 refine hKR2 _ ?_
 refine hK3 _ ?_
 refine awp_seq_k (fun K4 hK4 => ?_)
 refine awp_plain 5 (by kernel_rfl) rfl (fun g3 hg3 => ?_)
 simp only [go_sem]
 refine hK4 _ ?_
 refine awp_ret ?_
 refine ends_ev rfl ?_
 simp only [go_sem]
 exact Co.refl _
end Go.Proofs.T
