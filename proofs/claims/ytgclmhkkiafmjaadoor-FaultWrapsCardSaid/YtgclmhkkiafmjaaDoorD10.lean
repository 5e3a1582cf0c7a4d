/- A part of the proof, under no conditions of its own: D10. -/
import Derived.Test.YtgclmhkkiafmjaaDoorD9
import Derived.Test.YtgclmhkkiafmjaaDoorXH
namespace Go.Proofs.T
open Go Go.Ab Go.RowKit Go.Extern.Stop Go.Stop Go.Extern

/-! ## The entries that read or write memory, as contracts of the layer -/

abbrev valD (t : TypeId) (n : Nm) (fl : Int) : D := .agg [.val (hd t), .ptr n 0, .val (.int .u64 fl)]

theorem valueOf_x (args : Array Value) (w : World) : (callFunc 28 args).run Tryd.prog w = (((fun args => ReflectliteValue.unpack (args.getD 0 (.tuple #[]))) args).run Tryd.prog w).andThen fun v w' => .ok (.value v) w' := @run_callFunc_extern Tryd.prog 28 _ (fun args => ReflectliteValue.unpack (args.getD 0 (.tuple #[]))) Tryd.func28 (by kernel_rfl) (by kernel_rfl) (by kernel_rfl) (by kernel_rfl) args w
theorem vType_x (args : Array Value) (w : World) : (callFunc 29 args).run Tryd.prog w = (((ReflectliteValue.methodAny (ReflectliteValue.valueError "reflectlite.Value.Type" 0) (fun t _ _ _ => ReflectliteType.toType t)) args).run Tryd.prog w).andThen fun v w' => .ok (.value v) w' := @run_callFunc_extern Tryd.prog 29 _ (ReflectliteValue.methodAny (ReflectliteValue.valueError "reflectlite.Value.Type" 0) (fun t _ _ _ => ReflectliteType.toType t)) Tryd.func29 (by kernel_rfl) (by kernel_rfl) (by kernel_rfl) (by kernel_rfl) args w
theorem vIsNil_x (args : Array Value) (w : World) : (callFunc 30 args).run Tryd.prog w = (((ReflectliteValue.method (ReflectliteValue.valueError "reflectlite.Value.IsNil" 0) ReflectliteValue.isNil) args).run Tryd.prog w).andThen fun v w' => .ok (.value v) w' := @run_callFunc_extern Tryd.prog 30 _ (ReflectliteValue.method (ReflectliteValue.valueError "reflectlite.Value.IsNil" 0) ReflectliteValue.isNil) Tryd.func30 (by kernel_rfl) (by kernel_rfl) (by kernel_rfl) (by kernel_rfl) args w
theorem vElem_x (args : Array Value) (w : World) : (callFunc 33 args).run Tryd.prog w = (((ReflectliteValue.method (ReflectliteValue.valueError "reflectlite.Value.Elem" 0) ReflectliteValue.elem) args).run Tryd.prog w).andThen fun v w' => .ok (.value v) w' := @run_callFunc_extern Tryd.prog 33 _ (ReflectliteValue.method (ReflectliteValue.valueError "reflectlite.Value.Elem" 0) ReflectliteValue.elem) Tryd.func33 (by kernel_rfl) (by kernel_rfl) (by kernel_rfl) (by kernel_rfl) args w
theorem vSet_x (args : Array Value) (w : World) : (callFunc 34 args).run Tryd.prog w = (((ReflectliteValue.set) args).run Tryd.prog w).andThen fun v w' => .ok (.value v) w' := @run_callFunc_extern Tryd.prog 34 _ (ReflectliteValue.set) Tryd.func34 (by kernel_rfl) (by kernel_rfl) (by kernel_rfl) (by kernel_rfl) args w
theorem rKind_x (args : Array Value) (w : World) : (callFunc 61 args).run Tryd.prog w = (((ReflectliteType.abiMethod fun t => do pure (.int .u8 (← Rtype.kind t))) args).run Tryd.prog w).andThen fun v w' => .ok (.value v) w' := @run_callFunc_extern Tryd.prog 61 _ (ReflectliteType.abiMethod fun t => do pure (.int .u8 (← Rtype.kind t))) Tryd.func61 (by kernel_rfl) (by kernel_rfl) (by kernel_rfl) (by kernel_rfl) args w
theorem rElem_x (args : Array Value) (w : World) : (callFunc 76 args).run Tryd.prog w = (((ReflectliteType.method ReflectliteType.elem) args).run Tryd.prog w).andThen fun v w' => .ok (.value v) w' := @run_callFunc_extern Tryd.prog 76 _ (ReflectliteType.method ReflectliteType.elem) Tryd.func76 (by kernel_rfl) (by kernel_rfl) (by kernel_rfl) (by kernel_rfl) args w
theorem rImpl_x (args : Array Value) (w : World) : (callFunc 77 args).run Tryd.prog w = (((ReflectliteType.relation "Implements" ReflectliteType.implements_) args).run Tryd.prog w).andThen fun v w' => .ok (.value v) w' := @run_callFunc_extern Tryd.prog 77 _ (ReflectliteType.relation "Implements" ReflectliteType.implements_) Tryd.func77 (by kernel_rfl) (by kernel_rfl) (by kernel_rfl) (by kernel_rfl) args w

theorem kind30 (w : World) : ((ReflectliteType.abiMethod fun t => Functor.map (fun a : Nat => Value.int IntKind.u8 (a : Int)) (Rtype.kind t)) #[hd 30]).run Tryd.prog w = .ok (.int .u8 2) w := by kernel_rfl
theorem kind50 (w : World) : ((ReflectliteType.abiMethod fun t => Functor.map (fun a : Nat => Value.int IntKind.u8 (a : Int)) (Rtype.kind t)) #[hd 50]).run Tryd.prog w = .ok (.int .u8 25) w := by kernel_rfl

theorem set50 (ta b : Addr) (v v' : Value) (W : World) (hb : W.cell? b = some v) (hb' : W.cell? (b.add 1) = some v') :
    (ReflectliteValue.set #[.agg #[hd 50, .pointer (some ta), .int .u64 409], .agg #[hd 50, .pointer (some b), .int .u64 153]]).run Tryd.prog W
      = ((storeVar 50 ta (.agg #[v, v'])).run Tryd.prog W).andThen fun _ w => .ok (.tuple #[]) w := by
  have hl : (loadVar 50 b).run Tryd.prog W = .ok (.agg #[v, v']) W := by
    have h1 : (sizeOf 50).run Tryd.prog W = .ok 2 W := by kernel_rfl
    have h0 : b.add 0 = b := by simp [Addr.add]
    simp [loadVar, isAgg, underlying, Tryd.underlying50, Result.andThen, h1, loadCells, loadCellsFrom, hb, hb', h0]
  rw [rls]
  simp only [Sem.run_bind, parts50a, parts50, Result.andThen]
  simp [ReflectliteValue.flagAddr, hl, Result.andThen, direct50]

theorem kind_calls {t : TypeId} {k : Int} (h : ∀ w, ((ReflectliteType.abiMethod fun t => Functor.map (fun a : Nat => Value.int IntKind.u8 (a : Int)) (Rtype.kind t)) #[hd t]).run Tryd.prog w = .ok (.int .u8 k) w) (g d : Nat) :
    XCalls E 61 [.val (hd t)] [] g d (.val (.int .u8 k)) [] := by
  refine xcalls_pure fun w0 hA G w vs hw hvs => ?_
  obtain ⟨v, rfl, hv⟩ := vs_one hvs
  rw [V.of_val hv]
  refine ⟨.int .u8 k, ?_, .val _⟩
  rw [E_P, rKind_x]
  have := h w
  simp only [map_eq_pure_bind] at this
  rw [this]
  rfl
theorem recvKind (t : TypeId) : Recv Tryd.prog 78 "Kind" (.agg [.val (hd t)]) 61 (.val (hd t)) := fun _ w v hv => ⟨hd t, by rw [V.agg1 hv]; exact mKind _ w, .val _⟩
theorem recvElem (t : TypeId) : Recv Tryd.prog 78 "Elem" (.agg [.val (hd t)]) 76 (.agg [.val (hd t)]) := fun _ w v hv => ⟨v, by rw [V.agg1 hv]; exact mElem _ w, hv⟩
theorem recvImpl (t : TypeId) : Recv Tryd.prog 78 "Implements" (.agg [.val (hd t)]) 77 (.agg [.val (hd t)]) := fun _ w v hv => ⟨v, by rw [V.agg1 hv]; exact mImpl _ w, hv⟩
theorem elem_calls {t u : TypeId} (h : ∀ w, (ReflectliteType.method ReflectliteType.elem #[.agg #[hd t]]).run Tryd.prog w = .ok (rt u) w) (g d : Nat) :
    XCalls E 76 [.agg [.val (hd t)]] [] g d (rtD u) [] := by
  refine xcalls_pure fun w0 hA G w vs hw hvs => ?_
  obtain ⟨v, rfl, hv⟩ := vs_one hvs
  rw [V.agg1 hv]
  exact ⟨rt u, by rw [E_P, rElem_x, h]; rfl, rtV G w u⟩
theorem impl_calls {t u : TypeId} {b : Bool} (h : ∀ w, (ReflectliteType.relation "Implements" ReflectliteType.implements_ #[.agg #[hd t], rt u]).run Tryd.prog w = .ok (.bool b) w) (g d : Nat) :
    XCalls E 77 [.agg [.val (hd t)], rtD u] [] g d (dB b) [] := by
  refine xcalls_pure fun w0 hA G w vs hw hvs => ?_
  obtain ⟨v, v', rfl, hv, hv'⟩ := vs_two hvs
  rw [V.agg1 hv, ofRt hv']
  exact ⟨.bool b, by rw [E_P, rImpl_x, h]; rfl, .val _⟩
theorem valOfP52 (m : Nm) (g d : Nat) : XCalls E 28 [.iface 52 (.ptr m 0)] [] g d (valD 52 ⟨g, d, 0⟩ 150) [(⟨g, d, 0⟩, .box 52 [.ptr m 0])] := by
  refine xcalls_box fun w0 hA G w vs hw hvs => ?_
  obtain ⟨v, rfl, hv⟩ := vs_one hvs
  cases hv with
  | iface h1 =>
    cases h1 with
    | ptr hρ =>
      rename_i b
      refine ⟨#[.pointer (some ⟨b, 0, none⟩)], ?_, rfl, fun i c d hc hd => ?_⟩
      · rw [E_P, valueOf_x]
        show ((ReflectliteValue.unpack (.iface 52 (.pointer (some ⟨b, 0, none⟩)))).run Tryd.prog w).andThen _ = _
        rw [valOf52]
        rfl
      · match i, hc, hd with
        | 0, hc, hd => cases hc; cases hd; exact .ptr hρ
        | n + 1, hc, hd => simp at hd
theorem vType52 (n : Nm) (g d : Nat) : XCalls E 29 [valD 52 n 150] [] g d (rtD 52) [] := by
  refine xcalls_pure fun w0 hA G w vs hw hvs => ?_
  obtain ⟨v, rfl, hv⟩ := vs_one hvs
  obtain ⟨b, rfl, hρ⟩ := V.agg3 hv
  exact ⟨rt 52, by rw [E_P, vType_x, type52]; rfl, rtV G w 52⟩
theorem vIsNil52 (n m : Nm) (g d : Nat) : XCalls E 30 [valD 52 n 150] [(n, .box 52 [.ptr m 0])] g d (dB false) [(n, .box 52 [.ptr m 0])] := by
  refine xcalls_read (n := n) (t := 52) (cs := [.ptr m 0]) (by simp [Go.Ab.get]) fun w0 hA G w vs hw hvs b c hρ hh hc => ?_
  obtain ⟨v, rfl, hv⟩ := vs_one hvs
  obtain ⟨b', rfl, hρ'⟩ := V.agg3 hv
  rw [hρ] at hρ'
  cases hρ'
  have hs : c.size = 1 := hc.1
  have h0 := hc.2 0 c[0] _ (by simp [hs]) rfl
  generalize hx : c[0] = x at h0
  cases h0 with
  | ptr hq =>
    rename_i q
    have hcell : w.cell? ⟨b, 0, none⟩ = some (.pointer (some ⟨q, 0, none⟩)) := by
      simp [World.cell?, hh, hs, hx]
    exact ⟨.bool false, by rw [E_P, vIsNil_x, isNil52 _ _ _ hcell]; rfl, .val _⟩
theorem vElem52 (n m : Nm) (g d : Nat) : XCalls E 33 [valD 52 n 150] [(n, .box 52 [.ptr m 0])] g d (valD 30 m 386) [(n, .box 52 [.ptr m 0])] := by
  refine xcalls_read (n := n) (t := 52) (cs := [.ptr m 0]) (by simp [Go.Ab.get]) fun w0 hA G w vs hw hvs b c hρ hh hc => ?_
  obtain ⟨v, rfl, hv⟩ := vs_one hvs
  obtain ⟨b', rfl, hρ'⟩ := V.agg3 hv
  rw [hρ] at hρ'
  cases hρ'
  have hs : c.size = 1 := hc.1
  have h0 := hc.2 0 c[0] _ (by simp [hs]) rfl
  generalize hx : c[0] = x at h0
  cases h0 with
  | ptr hq =>
    rename_i q
    have hcell : w.cell? ⟨b, 0, none⟩ = some (.pointer (some ⟨q, 0, none⟩)) := by
      simp [World.cell?, hh, hs, hx]
    refine ⟨_, by rw [E_P, vElem_x, elemV52 _ _ _ hcell]; rfl, .agg rfl fun i c d hc hd => ?_⟩
    match i, hc, hd with
    | 0, hc, hd => cases hc; cases hd; exact .val _
    | 1, hc, hd => cases hc; cases hd; exact .ptr hq
    | 2, hc, hd => cases hc; cases hd; exact .val _
    | n + 3, hc, hd => simp at hd
theorem valOfP53 (m : Nm) (g d : Nat) : XCalls E 28 [.iface 53 (.ptr m 0)] [] g d (valD 53 ⟨g, d, 0⟩ 150) [(⟨g, d, 0⟩, .box 53 [.ptr m 0])] := by
  refine xcalls_box fun w0 hA G w vs hw hvs => ?_
  obtain ⟨v, rfl, hv⟩ := vs_one hvs
  cases hv with
  | iface h1 =>
    cases h1 with
    | ptr hρ =>
      rename_i b
      refine ⟨#[.pointer (some ⟨b, 0, none⟩)], ?_, rfl, fun i c d hc hd => ?_⟩
      · rw [E_P, valueOf_x]
        show ((ReflectliteValue.unpack (.iface 53 (.pointer (some ⟨b, 0, none⟩)))).run Tryd.prog w).andThen _ = _
        rw [valOf53]
        rfl
      · match i, hc, hd with
        | 0, hc, hd => cases hc; cases hd; exact .ptr hρ
        | n + 1, hc, hd => simp at hd
theorem vType53 (n : Nm) (g d : Nat) : XCalls E 29 [valD 53 n 150] [] g d (rtD 53) [] := by
  refine xcalls_pure fun w0 hA G w vs hw hvs => ?_
  obtain ⟨v, rfl, hv⟩ := vs_one hvs
  obtain ⟨b, rfl, hρ⟩ := V.agg3 hv
  exact ⟨rt 53, by rw [E_P, vType_x, type53]; rfl, rtV G w 53⟩
theorem vIsNil53 (n m : Nm) (g d : Nat) : XCalls E 30 [valD 53 n 150] [(n, .box 53 [.ptr m 0])] g d (dB false) [(n, .box 53 [.ptr m 0])] := by
  refine xcalls_read (n := n) (t := 53) (cs := [.ptr m 0]) (by simp [Go.Ab.get]) fun w0 hA G w vs hw hvs b c hρ hh hc => ?_
  obtain ⟨v, rfl, hv⟩ := vs_one hvs
  obtain ⟨b', rfl, hρ'⟩ := V.agg3 hv
  rw [hρ] at hρ'
  cases hρ'
  have hs : c.size = 1 := hc.1
  have h0 := hc.2 0 c[0] _ (by simp [hs]) rfl
  generalize hx : c[0] = x at h0
  cases h0 with
  | ptr hq =>
    rename_i q
    have hcell : w.cell? ⟨b, 0, none⟩ = some (.pointer (some ⟨q, 0, none⟩)) := by
      simp [World.cell?, hh, hs, hx]
    exact ⟨.bool false, by rw [E_P, vIsNil_x, isNil53 _ _ _ hcell]; rfl, .val _⟩
theorem vElem53 (n m : Nm) (g d : Nat) : XCalls E 33 [valD 53 n 150] [(n, .box 53 [.ptr m 0])] g d (valD 50 m 409) [(n, .box 53 [.ptr m 0])] := by
  refine xcalls_read (n := n) (t := 53) (cs := [.ptr m 0]) (by simp [Go.Ab.get]) fun w0 hA G w vs hw hvs b c hρ hh hc => ?_
  obtain ⟨v, rfl, hv⟩ := vs_one hvs
  obtain ⟨b', rfl, hρ'⟩ := V.agg3 hv
  rw [hρ] at hρ'
  cases hρ'
  have hs : c.size = 1 := hc.1
  have h0 := hc.2 0 c[0] _ (by simp [hs]) rfl
  generalize hx : c[0] = x at h0
  cases h0 with
  | ptr hq =>
    rename_i q
    have hcell : w.cell? ⟨b, 0, none⟩ = some (.pointer (some ⟨q, 0, none⟩)) := by
      simp [World.cell?, hh, hs, hx]
    refine ⟨_, by rw [E_P, vElem_x, elemV53 _ _ _ hcell]; rfl, .agg rfl fun i c d hc hd => ?_⟩
    match i, hc, hd with
    | 0, hc, hd => cases hc; cases hd; exact .val _
    | 1, hc, hd => cases hc; cases hd; exact .ptr hq
    | 2, hc, hd => cases hc; cases hd; exact .val _
    | n + 3, hc, hd => simp at hd

theorem valOfC (x : Int) (g d : Nat) : XCalls E 28 [.iface 30 (dI x)] [] g d (valD 30 ⟨g, d, 0⟩ 130) [(⟨g, d, 0⟩, .box 30 [dI x])] := by
  refine xcalls_box fun w0 hA G w vs hw hvs => ?_
  obtain ⟨v, rfl, hv⟩ := vs_one hvs
  cases hv with
  | iface h1 =>
    rw [V.of_val h1]
    refine ⟨#[.int .i64 x], ?_, rfl, fun i c d hc hd => ?_⟩
    · rw [E_P, valueOf_x]
      show ((ReflectliteValue.unpack (.iface 30 (.int .i64 x))).run Tryd.prog w).andThen _ = _
      rw [valOf30]
      rfl
    · match i, hc, hd with
      | 0, hc, hd => cases hc; cases hd; exact .val _
      | n + 1, hc, hd => simp at hd
theorem valOfF (x y : Int) (g d : Nat) : XCalls E 28 [.iface 50 (.agg [dI x, dI y])] [] g d (valD 50 ⟨g, d, 0⟩ 153) [(⟨g, d, 0⟩, .box 50 [dI x, dI y])] := by
  refine xcalls_box fun w0 hA G w vs hw hvs => ?_
  obtain ⟨v, rfl, hv⟩ := vs_one hvs
  cases hv with
  | iface h1 =>
    cases h1 with
    | agg h2 h3 =>
      obtain ⟨u, u', rfl, hu, hu'⟩ := vs_two ⟨h2, h3⟩
      rw [V.of_val hu, V.of_val hu']
      refine ⟨#[.int .i64 x, .int .i64 y], ?_, rfl, fun i c d hc hd => ?_⟩
      · rw [E_P, valueOf_x]
        show ((ReflectliteValue.unpack (.iface 50 (.agg #[.int .i64 x, .int .i64 y]))).run Tryd.prog w).andThen _ = _
        rw [valOf50]
        rfl
      · match i, hc, hd with
        | 0, hc, hd => cases hc; cases hd; exact .val _
        | 1, hc, hd => cases hc; cases hd; exact .val _
        | n + 2, hc, hd => simp at hd
theorem arr1 {c : Array Value} (h : c.size = 1) : ∃ x, c = #[x] := ⟨c[0], Array.ext (by simp [h]) fun i h1 h2 => by
  have : i = 0 := by omega
  subst this; rfl⟩
theorem arr2 {c : Array Value} (h : c.size = 2) : ∃ x y, c = #[x, y] := ⟨c[0], c[1], Array.ext (by simp [h]) fun i h1 h2 => by
  match i, h1 with
  | 0, _ => rfl
  | 1, _ => rfl
  | n + 2, h1 => exact absurd h1 (by omega)⟩
theorem vSetC {m k : Nm} (hmk : m ≠ k) (o : D) (x : Int) (g d : Nat) : XCalls E 34 [valD 30 m 386, valD 30 k 130] [(m, .box 30 [o]), (k, .box 30 [dI x])] g d (.tup []) [(m, .box 30 [dI x]), (k, .box 30 [dI x])] := by
  refine xcalls_set (fun c => c.getD 0 undef) hmk rfl sz30 rfl (fun G w c hc => ?_) (fun a b c w hh hc => ?_)
  · obtain ⟨v, rfl, hv⟩ := vs_one hc
    rw [show v = _ from V.of_val hv]
    rfl
  · obtain ⟨x, rfl⟩ := arr1 hc
    rw [E_P, vSet_x, set30 _ _ x w (by simp [World.cell?, hh])]
    show Result.andThen (Result.andThen ((storeVar 30 ⟨a, 0, none⟩ x).run Tryd.prog w) _) _ = Result.andThen ((storeVar 30 ⟨a, 0, none⟩ x).run Tryd.prog w) _
    generalize (storeVar 30 ⟨a, 0, none⟩ x).run Tryd.prog w = r
    cases r <;> rfl
theorem vSetF {m k : Nm} (hmk : m ≠ k) (o o' : D) (x y : Int) (g d : Nat) : XCalls E 34 [valD 50 m 409, valD 50 k 153] [(m, .box 50 [o, o']), (k, .box 50 [dI x, dI y])] g d (.tup []) [(m, .box 50 [dI x, dI y]), (k, .box 50 [dI x, dI y])] := by
  refine xcalls_set (fun c => .agg c) hmk rfl sz50 rfl (fun _ _ c _ => rfl) (fun a b c w hh hc => ?_)
  obtain ⟨x, y, rfl⟩ := arr2 hc
  rw [E_P, vSet_x, set50 _ _ x y w (by simp [World.cell?, hh]) (by simp [World.cell?, Addr.add, hh])]
  generalize (storeVar 50 ⟨a, 0, none⟩ (.agg #[x, y])).run Tryd.prog w = r
  cases r <;> rfl
end Go.Proofs.T

