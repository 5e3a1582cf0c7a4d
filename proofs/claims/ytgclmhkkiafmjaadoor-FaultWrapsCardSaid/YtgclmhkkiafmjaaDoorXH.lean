/- A part of the proof, under no conditions of its own: XH. -/
import Derived.Test.YtgclmhkkiafmjaaDoorXE
import Derived.Stop.Asserts
import Derived.Laws.Externs
namespace Go.Ab
open Go Go.RowKit

/-- The operation comes down to a call of f with what args denotes. -/
def Leads (E : Ctx) (o : Oper) (e : Operand → D) (f : FuncId) (args : List D) : Prop :=
  ∀ G w (ρ : Operand → Value), (∀ x ∈ o.op.operands, V G w (ρ x) (e x)) → ∃ vs, (execOp ρ o).run E.P w = (callFunc f vs).run E.P w ∧ Vs G w vs args

/-- The dynamic type's method, and the receiver that it is handed. -/
def Recv (P : Program) (t : TypeId) (name : String) (d : D) (f : FuncId) (d' : D) : Prop :=
  ∀ G w v, V G w v d → ∃ v', (method (P.types.size + Made.depth) t v name).run P w = .ok (f, v') w ∧ V G w v' d'

/-- A call of an entry of the model's own. -/
def XCalls (E : Ctx) (f : FuncId) (args : List D) (σ : Sto) (g d : Nat) (r : D) (σ' : Sto) : Prop :=
  ∀ w0, E.A w0 → ∀ G w (vs : Array Value), WF w0 G w → Vs G w vs args → Objs w0 G w (get σ) → (g < G.top ∧ ∀ j, G.ρ ⟨g, d, j⟩ = none) →
    ∃ v w' G', (callFunc f vs).run E.P w = .ok (.value v) w' ∧ WF w0 G' w' ∧ V G' w' v r ∧ Objs w0 G' w' (get σ') ∧ Step (rsv g (some d)) G w (get σ) G' w' (get σ')

section
variable {E : Ctx} {g : Nat} {o : Oper} {e : Operand → D}

theorem Vs.map_ops {G : Gh} {w : World} {ρ : Operand → Value} (xs : Array Operand) (h : ∀ x ∈ xs, V G w (ρ x) (e x)) : Vs G w (xs.map ρ) (xs.toList.map e) := by
  refine ⟨by simp, fun i x d hx hd => ?_⟩
  simp only [Array.getElem?_map, Option.map_eq_some_iff] at hx
  obtain ⟨y, hy, rfl⟩ := hx
  simp only [List.getElem?_map, Array.getElem?_toList, hy, Option.map_some, Option.some.injEq] at hd
  subst hd
  exact h y (Array.mem_of_getElem? hy)

theorem leads_fn {c : Call} {fo : Operand} {f : FuncId} (hop : o.op = .call c) (hc : c.callee = .value fo) (hf : e fo = .func (.func f) [] []) : Leads E o e f (c.args.toList.map e) := by
  intro G w ρ hV
  have hv := hV fo (by simp [hop, Op.operands, Call.operands, hc])
  rw [hf] at hv
  generalize hρ : ρ fo = u at hv
  cases hv with
  | func h1 h2 h3 h4 =>
    rename_i fv cv
    have e1 : fv = #[] := Array.size_eq_zero_iff.1 h1
    have e2 : cv = #[] := Array.size_eq_zero_iff.1 h2
    subst e1 e2
    refine ⟨c.args.map ρ, ?_, Vs.map_ops c.args fun x hx => hV x ?_⟩
    · simp [execOp, hop, resolve, hc, hρ, Deferred.ofValue, invoke]
    · simp only [hop, Op.operands, Call.operands, hc]
      exact Array.mem_append.2 (.inr hx)

theorem leads_method {c : Call} {ro : Operand} {name : String} {t : TypeId} {d d' : D} {f : FuncId} (hop : o.op = .call c) (hc : c.callee = .invoke ro name) (hr : e ro = .iface t d) (hm : Recv E.P t name d f d') : Leads E o e f (d' :: c.args.toList.map e) := by
  intro G w ρ hV
  have hv := hV ro (by simp [hop, Op.operands, Call.operands, hc])
  rw [hr] at hv
  generalize hρ : ρ ro = u at hv
  cases hv with
  | iface h1 =>
    rename_i v
    obtain ⟨v', k1, k2⟩ := hm G w v h1
    have k3 : Vs G w #[v'] [d'] := ⟨rfl, fun i x y hx hy => by
      match i, hx, hy with
      | 0, hx, hy => cases hx; cases hy; exact k2⟩
    have k4 : Vs G w (c.args.map ρ) (c.args.toList.map e) := Vs.map_ops c.args fun x hx => hV x (by
      simp only [hop, Op.operands, Call.operands, hc]
      exact Array.mem_append.2 (.inr hx))
    refine ⟨#[v'] ++ c.args.map ρ, ?_, k3.append k4⟩
    have h0 : (#[Value.iface t v] ++ Array.map ρ c.args)[0]? = some (Value.iface t v) := by simp [Array.getElem?_append]
    have hx : (Array.map ρ c.args).extract 0 c.args.size = Array.map ρ c.args := by
      have := Array.extract_size (xs := Array.map ρ c.args)
      rwa [Array.size_map] at this
    simp [execOp, hop, resolve, hc, hρ, invoke, h0, hx, callMethod, k1, Result.andThen]

theorem Vs.co {G : Gh} {w : World} {vs : Array Value} {args args' : List D} (h : Vs G w vs args) (hco : CoL args args') : Vs G w vs args' :=
  let ⟨hcl, hcs⟩ := hco.spec
  ⟨h.1.trans hcl, fun i c d' hx hd' => let ⟨d0, k1, k2⟩ := hcs i d' hd'; k2 G w c (h.2 i c d0 hx k1)⟩

theorem top_leads {f : FuncId} {args args' : List D} {σ σs σ' : Sto} {d : Nat} {r : D} (hc : Leads E o e f args) (hco : CoL args args') (hd : o.dst = some d) (h : ACalls E f args' σs g d r σ') (hsub : ∀ p ∈ σs, get σ p.1 = some p.2) :
    TOp E g o e (get σ) r (get (σ' ++ dels σ (σs.map (·.1)))) := by
  intro w0 hA G w a hw hV ho hf K Q' hK
  obtain ⟨vs, hrun, hvs⟩ := hc G w a.eval hV
  rw [h.call] at hrun
  have hvs' := hvs.co hco
  have hsub' : ∀ n o, get σs n = some o → get σ n = some o := fun n o hn => hsub (n, o) (mem_of_get hn)
  have hrun2 := h.run w0 hA G w vs hw hvs' (ho.sub hsub') (hf d hd)
  refine op_enter hrun (Calls.mono hrun2 ?_)
  rintro en w' ⟨v, G', rfl, hw', hv, ho', hs⟩
  obtain ⟨f1, f2⟩ := frame (κs := get σs) (τ := get (dels σ (σs.map (·.1)))) hw ho hsub' (fun n o' hn => by
    rw [get_dels] at hn
    split at hn
    · cases hn
    · rename_i hnm
      exact ⟨hn, get_none_iff.2 hnm⟩) hs ho'
  rw [← get_append] at f1 f2
  exact hK G' w' v hw' hv f1 (f2.weaken fun n _ hn => by rw [hd]; exact hn)

theorem top_entry {f : FuncId} {args args' : List D} {σ σs σ' : Sto} {d : Nat} {r : D} (hc : Leads E o e f args) (hco : CoL args args') (hd : o.dst = some d) (h : XCalls E f args' σs g d r σ') (hsub : ∀ p ∈ σs, get σ p.1 = some p.2) :
    TOp E g o e (get σ) r (get (σ' ++ dels σ (σs.map (·.1)))) := by
  intro w0 hA G w a hw hV ho hf K Q' hK
  obtain ⟨vs, hrun, hvs⟩ := hc G w a.eval hV
  have hvs' := hvs.co hco
  have hsub' : ∀ n o, get σs n = some o → get σ n = some o := fun n o hn => hsub (n, o) (mem_of_get hn)
  obtain ⟨v, w', G', hrun2, hw', hv, ho', hs⟩ := h w0 hA G w vs hw hvs' (ho.sub hsub') (hf d hd)
  rw [hrun2] at hrun
  refine op_val hrun ?_
  obtain ⟨f1, f2⟩ := frame (κs := get σs) (τ := get (dels σ (σs.map (·.1)))) hw ho hsub' (fun n o' hn => by
    rw [get_dels] at hn
    split at hn
    · cases hn
    · rename_i hnm
      exact ⟨hn, get_none_iff.2 hnm⟩) hs ho'
  rw [← get_append] at f1 f2
  exact hK G' w' v hw' hv f1 (f2.weaken fun n _ hn => by rw [hd]; exact hn)
end

section
variable {E : Ctx} {N : Nat} {st : St} {ops : List Oper} {ds : List (Option Tmp)} {g : Nat} {Q : St → Prop}

/-- A method called through an interface. -/
theorem aops_inv {o : Oper} {r : List Oper} {f : FuncId} {args args' : List D} {σs σ' : Sto} {d : Nat} {x : D} (hds : ops.map (·.dst) = ds) (hw : wantL ds st.env o.guard = some true) (hd : o.dst = some d) (hc : Leads E o (ev E st.env) f args) (h : ACalls E f args' σs g d x σ') (hco : CoL args args')
    (hsub : ∀ p ∈ σs, get st.σ p.1 = some p.2) (k : AOps E N ops g Q r { env := (d, x) :: st.env, σ := σ' ++ dels st.σ (σs.map (·.1)) }) : AOps E N ops g Q (o :: r) st := by
  refine aops_t (by rw [← wantL_eq hds]; exact hw) (top_leads hc hco hd h hsub) ?_
  simp only [hd, St.env']
  exact k

/-- An entry of the model's own. -/
theorem aops_entry {o : Oper} {r : List Oper} {f : FuncId} {args args' : List D} {σs σ' : Sto} {d : Nat} {x : D} (hds : ops.map (·.dst) = ds) (hw : wantL ds st.env o.guard = some true) (hd : o.dst = some d) (hc : Leads E o (ev E st.env) f args) (h : XCalls E f args' σs g d x σ') (hco : CoL args args')
    (hsub : ∀ p ∈ σs, get st.σ p.1 = some p.2) (k : AOps E N ops g Q r { env := (d, x) :: st.env, σ := σ' ++ dels st.σ (σs.map (·.1)) }) : AOps E N ops g Q (o :: r) st := by
  refine aops_t (by rw [← wantL_eq hds]; exact hw) (top_entry hc hco hd h hsub) ?_
  simp only [hd, St.env']
  exact k
end
end Go.Ab

namespace Go.Ab
open Go Go.RowKit

section
variable {E : Ctx} {g d : Nat} {f : FuncId} {args : List D}

/-- One that reads nothing. -/
theorem xcalls_pure {r : D} (h : ∀ w0, E.A w0 → ∀ G w vs, WF w0 G w → Vs G w vs args → ∃ v, (callFunc f vs).run E.P w = .ok (.value v) w ∧ V G w v r) : XCalls E f args [] g d r [] := by
  intro w0 hA G w vs hw hvs ho _
  obtain ⟨v, h1, h2⟩ := h w0 hA G w vs hw hvs
  exact ⟨v, w, G, h1, hw, h2, ho, .refl _ _ _ _⟩

/-- One that lays a new variable and hands it back between two plain values. -/
theorem xcalls_box {h fl : Value} {t : TypeId} {cs : List D}
    (hrun : ∀ w0, E.A w0 → ∀ G w vs, WF w0 G w → Vs G w vs args → ∃ c, (callFunc f vs).run E.P w = .ok (.value (.agg #[h, .pointer (some ⟨w.heap.size, 0, none⟩), fl])) (w.alloc (.cells c t)) ∧ Vs G w c cs) :
    XCalls E f args [] g d (.agg [.val h, .ptr ⟨g, d, 0⟩ 0, .val fl]) [(⟨g, d, 0⟩, .box t cs)] := by
  intro w0 hA G w vs hw hvs ho hf
  obtain ⟨c, hc, hs⟩ := hrun w0 hA G w vs hw hvs
  obtain ⟨hg, hfresh⟩ := hf
  have hgr : w.grownBy (w.alloc (.cells c t)) none := World.grownBy_alloc w _ none
  have hnew : (w.alloc (.cells c t)).heap[w.heap.size]? = some (.cells c t (0, 0)) := heap_alloc_n w _
  have hsz : (w.alloc (.cells c t)).heap.size = w.heap.size + 1 := World.size_alloc _ _
  obtain ⟨h1, h2, h3⟩ := new_obj hw ho (hfresh 0) hg (v := .pointer (some ⟨w.heap.size, 0, none⟩)) (ob := .box t cs) hgr (fun b hb => by simp [blk] at hb; omega)
    ⟨w.heap.size, c, rfl, hnew, hs.1, fun i x d hx hd' => (hs.2 i x d hx hd').upd (hfresh 0) (fun b hF => heap_alloc_o w _ b (hw.lt b hF))⟩
  have he : Kp.or (single (⟨g, d, 0⟩ : Nm) (.box t cs)) (get []) = get [((⟨g, d, 0⟩ : Nm), Ob.box t cs)] := by
    rw [← get_single]
    funext n
    simp [Kp.or, get]
  rw [he] at h2 h3
  refine ⟨_, _, _, hc, h1, .agg (by simp) (fun i x y hx hy => ?_), h2, h3.weaken fun n _ hn => by subst hn; exact ⟨rfl, rfl⟩⟩
  match i, hx, hy with
  | 0, hx, hy => cases hx; cases hy; exact .val _
  | 1, hx, hy => cases hx; cases hy; exact .ptr (by simp [Gh.upd])
  | 2, hx, hy => cases hx; cases hy; exact .val _
  | n + 3, hx, hy => simp at hy
end

section
variable {E : Ctx} {N : Nat} {st : St} {ops : List Oper} {ds : List (Option Tmp)} {g : Nat} {Q : St → Prop}

theorem aops_inv0 {o : Oper} {r : List Oper} {f : FuncId} {args args' : List D} {nw : Sto} {d : Nat} {x : D} (hds : ops.map (·.dst) = ds) (hw : wantL ds st.env o.guard = some true) (hd : o.dst = some d) (hc : Leads E o (ev E st.env) f args) (h : ACalls E f args' [] g d x nw) (hco : CoL args args')
    (k : AOps E N ops g Q r { env := (d, x) :: st.env, σ := nw ++ st.σ }) : AOps E N ops g Q (o :: r) st :=
  aops_inv hds hw hd hc h hco (fun p hp => by cases hp) k
theorem aops_entry0 {o : Oper} {r : List Oper} {f : FuncId} {args args' : List D} {nw : Sto} {d : Nat} {x : D} (hds : ops.map (·.dst) = ds) (hw : wantL ds st.env o.guard = some true) (hd : o.dst = some d) (hc : Leads E o (ev E st.env) f args) (h : XCalls E f args' [] g d x nw) (hco : CoL args args')
    (k : AOps E N ops g Q r { env := (d, x) :: st.env, σ := nw ++ st.σ }) : AOps E N ops g Q (o :: r) st :=
  aops_entry hds hw hd hc h hco (fun p hp => by cases hp) k

/-- A value of an interface type, asserted to be of another one, with comma-ok. -/
theorem aops_has {o : Oper} {r : List Oper} {d : Nat} {x : Operand} {xT asserted t : TypeId} {dv : D} (hds : ops.map (·.dst) = ds) (hw : wantL ds st.env o.guard = some true) (hd : o.dst = some d) (hop : o.op = .typeAssert x xT asserted true) (hx : ev E st.env x = .iface t dv)
    (hf : ∀ v w, (Instr.typeAssert (.iface t v) xT asserted true).run E.P w = .ok (.tuple #[.iface t v, .bool true]) w)
    (k : AOps E N ops g Q r { env := (d, .tup [.iface t dv, .val (.bool true)]) :: st.env, σ := st.σ }) : AOps E N ops g Q (o :: r) st := by
  refine aops_q (by rw [← wantL_eq hds]; exact hw) (QOp.of_yields fun w0 hA G w ρ _ hV _ => ?_ : QOp E g o (ev E st.env) (get st.σ) (.tup [.iface t dv, .val (.bool true)]) []) (by simpa [St.put, hd] using k)
  have hv := hV x (by simp [hop, Op.operands])
  rw [hx] at hv
  generalize hρ : ρ x = u at hv
  cases hv with
  | iface h1 =>
    rename_i v
    refine ⟨.tuple #[.iface t v, .bool true], by simp [execOp, hop, hρ, hf v w, Result.andThen], .tup (by simp) (fun i a b ha hb => ?_)⟩
    match i, ha, hb with
    | 0, ha, hb => cases ha; cases hb; exact .iface h1
    | 1, ha, hb => cases ha; cases hb; exact .val _
    | n + 2, ha, hb => simp at hb
theorem aops_lacks {o : Oper} {r : List Oper} {d : Nat} {x : Operand} {xT asserted t : TypeId} {dv : D} (hds : ops.map (·.dst) = ds) (hw : wantL ds st.env o.guard = some true) (hd : o.dst = some d) (hop : o.op = .typeAssert x xT asserted true) (hx : ev E st.env x = .iface t dv)
    (hf : ∀ v w, (Instr.typeAssert (.iface t v) xT asserted true).run E.P w = .ok (.tuple #[.nilIface, .bool false]) w)
    (k : AOps E N ops g Q r { env := (d, .tup [.val .nilIface, .val (.bool false)]) :: st.env, σ := st.σ }) : AOps E N ops g Q (o :: r) st := by
  refine aops_q (by rw [← wantL_eq hds]; exact hw) (QOp.of_yields fun w0 hA G w ρ _ hV _ => ?_ : QOp E g o (ev E st.env) (get st.σ) (.tup [.val .nilIface, .val (.bool false)]) []) (by simpa [St.put, hd] using k)
  have hv := hV x (by simp [hop, Op.operands])
  rw [hx] at hv
  generalize hρ : ρ x = u at hv
  cases hv with
  | iface h1 =>
    rename_i v
    refine ⟨.tuple #[.nilIface, .bool false], by simp [execOp, hop, hρ, hf v w, Result.andThen], .tup (by simp) (fun i a b ha hb => ?_)⟩
    match i, ha, hb with
    | 0, ha, hb => cases ha; cases hb; exact .val _
    | 1, ha, hb => cases ha; cases hb; exact .val _
    | n + 2, ha, hb => simp at hb
end
end Go.Ab

namespace Go.Ab
open Go Go.RowKit

section
variable {E : Ctx} {g : Nat} {o : Oper} {e : Operand → D}

theorem qop_leads {f : FuncId} {args args' : List D} {σ σs nw : Sto} {d : Nat} {r : D} (hc : Leads E o e f args) (hco : CoL args args') (hd : o.dst = some d) (h : ACalls E f args' σs g d r (nw ++ σs)) (hsub : ∀ p ∈ σs, get σ p.1 = some p.2) :
    QOp E g o e (get σ) r nw := by
  intro w0 hA G w a hw hV ho hf K Q' hK
  have hsub' : ∀ n o, get σs n = some o → get σ n = some o := fun n o hn => hsub (n, o) (mem_of_get hn)
  have he : get ((nw ++ σs) ++ dels σ (σs.map (·.1))) = Kp.or (get nw) (get σ) := by
    rw [get_append, get_append]
    funext n
    simp only [Kp.or]
    cases h1 : get nw n with
    | some x => simp
    | none =>
      simp only [Option.none_or]
      cases h2 : get σs n with
      | some x => rw [hsub' n x h2]; simp
      | none => rw [get_dels, if_neg (get_none_iff.1 h2)]; simp
  have := top_leads hc hco hd h hsub w0 hA G w a hw hV ho hf K Q'
  rw [he] at this
  exact this hK

/-- A receiver that is handed on as it is. -/
theorem Recv.same {P : Program} {t : TypeId} {name : String} {f : FuncId} (h : ∀ v w, (method (P.types.size + Made.depth) t v name).run P w = .ok (f, v) w) (d : D) : Recv P t name d f d :=
  fun _ w v hv => ⟨v, h v w, hv⟩
end

section
variable {E : Ctx} {g : Nat} {st : St} {ops : List Oper} {ds : List (Option Tmp)} {σ0 : Sto} {K : St → Prop}
theorem qrun_inv0 {o : Oper} {r : List Oper} {f : FuncId} {args args' : List D} {nw : Sto} {d : Nat} {x : D} (hds : ops.map (·.dst) = ds) (hw : wantL ds st.env o.guard = some true) (hd : o.dst = some d) (hc : Leads E o (ev E st.env) f args) (h : ACalls E f args' [] g d x nw) (hco : CoL args args')
    (hnw : nwOk g (some d) nw = true) (k : QRun E ops g σ0 K r { env := (d, x) :: st.env, σ := nw ++ st.σ }) : QRun E ops g σ0 K (o :: r) st := by
  refine qrun_cons (v := x) (nw := nw) (.inl ⟨by rw [← wantL_eq hds]; exact hw, qop_leads (σs := []) hc hco hd (by simpa using h) (fun p hp => by cases hp), by rw [hd]; exact nwOk_spec hnw⟩) ?_
  rw [hd]
  exact k
end
end Go.Ab

namespace Go.Ab
open Go Go.RowKit

section
variable {E : Ctx} {g d : Nat} {f : FuncId}

theorem V.agg3 {G : Gh} {w : World} {v x y : Value} {n : Nm} (h : V G w v (.agg [.val x, .ptr n 0, .val y])) : ∃ b, v = .agg #[x, .pointer (some ⟨b, 0, none⟩), y] ∧ G.ρ n = some (.pointer (some ⟨b, 0, none⟩)) := by
  cases h with
  | agg h1 h2 =>
    rename_i cs
    have hs : cs.size = 3 := h1
    have e0 := h2 0 cs[0] _ (by simp [hs]) rfl
    have e1 := h2 1 cs[1] _ (by simp [hs]) rfl
    have e2 := h2 2 cs[2] _ (by simp [hs]) rfl
    generalize hp : cs[1] = p at e1
    cases e1 with
    | ptr hρ =>
      rename_i b
      refine ⟨b, ?_, hρ⟩
      congr 1
      refine Array.ext (by simp [hs]) fun i hi h3 => ?_
      match i, hi with
      | 0, _ => exact V.of_val e0
      | 1, _ => exact hp
      | 2, _ => exact V.of_val e2
      | n + 3, hi => exact absurd hi (by omega)

/-- One that reads a variable. -/
theorem xcalls_read {args : List D} {r : D} {σ : Sto} {n : Nm} {t : TypeId} {cs : List D} (hn : get σ n = some (.box t cs))
    (h : ∀ w0, E.A w0 → ∀ G w vs, WF w0 G w → Vs G w vs args → ∀ b c, G.ρ n = some (.pointer (some ⟨b, 0, none⟩)) → w.heap[b]? = some (.cells c t (0, 0)) → Vs G w c cs → ∃ v, (callFunc f vs).run E.P w = .ok (.value v) w ∧ V G w v r) :
    XCalls E f args σ g d r σ := by
  intro w0 hA G w vs hw hvs ho _
  obtain ⟨u, hρ, ⟨b, c, rfl, hh, hsz, hcs⟩, _⟩ := ho.ob n _ hn
  obtain ⟨v, h1, h2⟩ := h w0 hA G w vs hw hvs b c hρ hh ⟨hsz, hcs⟩
  exact ⟨v, w, G, h1, hw, h2, ho, .refl _ _ _ _⟩

/-- One that writes a whole variable with what another one holds. -/
theorem xcalls_set {h1 fl1 h2 fl2 : Value} {m k : Nm} {t : TypeId} {old new : List D} (mk : Array Value → Value) (hmk : m ≠ k) (hl : old.length = new.length) (hs : szOf E.P t = some new.length) (hone : new.all D.one = true)
    (hcell : ∀ G w c, Vs G w c new → (mk c).cells = c)
    (hrun : ∀ (a b : Nat) (c : Array Value) w, w.heap[b]? = some (.cells c t (0, 0)) → c.size = new.length →
      (callFunc f #[.agg #[h1, .pointer (some ⟨a, 0, none⟩), fl1], .agg #[h2, .pointer (some ⟨b, 0, none⟩), fl2]]).run E.P w = ((storeVar t ⟨a, 0, none⟩ (mk c)).run E.P w).andThen fun _ w => .ok (.value (.tuple #[])) w) :
    XCalls E f [.agg [.val h1, .ptr m 0, .val fl1], .agg [.val h2, .ptr k 0, .val fl2]] [(m, .box t old), (k, .box t new)] g d (.tup []) [(m, .box t new), (k, .box t new)] := by
  intro w0 hA G w vs hw hvs ho _
  have hsz2 : vs.size = 2 := hvs.1
  obtain ⟨a, e1, hm⟩ := V.agg3 (hvs.2 0 vs[0] _ (by simp [hsz2]) rfl)
  obtain ⟨b, e2, hk⟩ := V.agg3 (hvs.2 1 vs[1] _ (by simp [hsz2]) rfl)
  have hv : vs = #[.agg #[h1, .pointer (some ⟨a, 0, none⟩), fl1], .agg #[h2, .pointer (some ⟨b, 0, none⟩), fl2]] := by
    refine Array.ext (by simp [hsz2]) fun i hi h3 => ?_
    match i, hi with
    | 0, _ => exact e1
    | 1, _ => exact e2
    | n + 2, hi => exact absurd hi (by omega)
  have gm : get [(m, Ob.box t old), (k, Ob.box t new)] m = some (.box t old) := by simp [get]
  have gk : get [(m, Ob.box t old), (k, Ob.box t new)] k = some (.box t new) := by simp [get, hmk]
  obtain ⟨u, hu, ⟨a', ca, rfl, hha, hsa, hca⟩, hFa⟩ := ho.ob m _ gm
  rw [hm] at hu
  cases hu
  obtain ⟨u, hu, ⟨b', cb, rfl, hhb, hsb, hcb⟩, hFb⟩ := ho.ob k _ gk
  rw [hk] at hu
  cases hu
  have hvs2 : Vs G w cb new := ⟨hsb, hcb⟩
  have h1' : ∀ x ∈ cb.toList, x.oneCell' = true := fun x hx => by
    obtain ⟨i, hi, rfl⟩ := List.mem_iff_getElem.1 hx
    have hi' : i < new.length := by simpa [hsb] using hi
    have hone' : D.one new[i] = true := List.all_eq_true.1 hone _ (List.getElem_mem hi')
    exact V.one (hcb i _ _ (by simp at hi ⊢) (List.getElem?_eq_getElem hi')) hone'
  have hc := hcell G w cb hvs2
  have hst : (storeVar t ⟨a, 0, none⟩ (mk cb)).run E.P w = .ok () (w.setRow a cb) := by
    have := run_storeCells_at E.P a 0 t cb.toList 0 ca w hha (by rw [Array.length_toList]; omega) h1'
    simp only [Nat.add_zero, Nat.zero_add, Array.length_toList, List.take_zero, List.nil_append] at this
    have hd : ca.toList.drop cb.size = [] := List.drop_eq_nil_of_le (by rw [Array.length_toList]; omega)
    rw [hd, List.append_nil, Array.toArray_toList] at this
    have h2 : (mk cb).cells.size = new.length := by rw [hc]; exact hsb
    have h3 : cb.size = new.length := hsb
    simp [storeVar, run_sizeOf hs, hc, this, h3]
  have hrun' := hrun a b cb w hhb hsb
  rw [hst] at hrun'
  simp only [Result.andThen] at hrun'
  have hgr : w.grownBy (w.setRow a cb) (blk (.pointer (some ⟨a, 0, none⟩))) :=
    ⟨rfl, rfl, rfl, by simp, fun k _ hk => setRow_other w a k _ fun he => hk (by simp [blk, he])⟩
  have hnF : ¬ G.F a := hFa a rfl
  obtain ⟨g1, g2, g3⟩ := change_obj (ob' := .box t new) hw ho gm hm hgr ⟨a, cb, rfl, setRow_heap w a ca _ t (0, 0) hha, hsb, fun i y d' hy hd => (hcb i y d' hy hd).mono (fun _ h => h) (fun b' hF => setRow_other w a b' _ fun he => hnF (he ▸ hF)) (fun _ _ h => h)⟩
  have he : Kp.put (get [(m, Ob.box t old), (k, Ob.box t new)]) m (.box t new) = get [(m, Ob.box t new), (k, Ob.box t new)] := by
    funext x
    simp only [Kp.put, get]
    split <;> simp_all
  rw [he] at g2 g3
  refine ⟨.tuple #[], _, _, by rw [hv]; exact hrun', g1, .tup rfl (fun i c d hc hd => by simp at hd), g2, g3.weaken fun _ _ h => h.elim⟩
end

section
variable {E : Ctx} {N : Nat} {st : St} {ops : List Oper} {ds : List (Option Tmp)} {g : Nat} {Q : St → Prop}
/-- Two values of an interface type, compared. -/
theorem aops_eqi {o : Oper} {r : List Oper} {d : Nat} {x y : Operand} {t tt tx ty : TypeId} {dx dy : D} {b : Bool} (hds : ops.map (·.dst) = ds) (hw : wantL ds st.env o.guard = some true) (hd : o.dst = some d) (hop : o.op = .binOp .eql t x y tt) (hx : ev E st.env x = .iface tx dx) (hy : ev E st.env y = .iface ty dy)
    (hf : ∀ G w v v', V G w v dx → V G w v' dy → (binOp .eql t (.iface tx v) (.iface ty v')).run E.P w = .ok (.bool b) w)
    (k : AOps E N ops g Q r { env := (d, .val (.bool b)) :: st.env, σ := st.σ }) : AOps E N ops g Q (o :: r) st := by
  refine aops_q (by rw [← wantL_eq hds]; exact hw) (QOp.of_yields fun w0 hA G w ρ _ hV _ => ?_ : QOp E g o (ev E st.env) (get st.σ) (.val (.bool b)) []) (by simpa [St.put, hd] using k)
  have hv := hV x (by simp [hop, Op.operands])
  have hv' := hV y (by simp [hop, Op.operands])
  rw [hx] at hv
  rw [hy] at hv'
  generalize hρ : ρ x = u at hv
  generalize hρ' : ρ y = u' at hv'
  cases hv with
  | iface h1 =>
    cases hv' with
    | iface h2 =>
      exact ⟨.bool b, by simp [execOp, hop, hρ, hρ', eqGuard, hf G w _ _ h1 h2, Result.andThen], .val _⟩
end

/-- A return behind which objects of the caller's are as they stand. -/
theorem ends_keep {E : Ctx} {st : St} {fn : Func} {g d : Nat} {r : D} {σ' : Sto} {l : List ResultVar} (hl : fn.results = l.toArray) (hσ : ∀ p ∈ σ', get st.σ p.1 = some p.2) (h : SomeP (resD E.P st l) fun ds => Co (resV ds) r) : retQ E fn g d r σ' .ret st := by
  obtain ⟨ds, h1, h2⟩ := h.elim
  exact ends_plain hl h1 h2 hσ
end Go.Ab
