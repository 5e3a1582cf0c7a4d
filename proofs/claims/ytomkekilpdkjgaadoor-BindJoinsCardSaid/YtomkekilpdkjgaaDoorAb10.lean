/- A part of the proof, under no conditions of its own: Ab10. -/
import Derived.Test.YtomkekilpdkjgaaDoorAb9
/-
  Contracts, and the way into a function and out of it.
-/
namespace Go.Ab
open Go Go.RowKit

structure ACalls (E : Ctx) (f : FuncId) (args : List D) (σ : Sto) (g d : Nat) (r : D) (σ' : Sto) : Prop where
  call : ∀ as w, (callFunc f as).run E.P w = .ok (.enter f as) w
  run : ∀ w0, E.A w0 → ∀ G w (vs : Array Value), WF w0 G w → Vs G w vs args → Objs w0 G w (get σ) → (g < G.top ∧ ∀ j, G.ρ ⟨g, d, j⟩ = none) →
    Calls E.P f vs w fun e w' => ∃ v G', e = .returned v ∧ WF w0 G' w' ∧ V G' w' v r ∧ Objs w0 G' w' (get σ') ∧ Step (rsv g (some d)) G w (get σ) G' w' (get σ')

/-- Whatever the one denotes, the other denotes too. -/
def Co (d d' : D) : Prop := ∀ G w v, V G w v d → V G w v d'

theorem Co.refl (d : D) : Co d d := fun _ _ _ h => h
theorem Co.nil (x : Bool) : Co (.val (.slice none 0 0)) (.sl x []) := fun _ _ _ h => by rw [V.of_val h]; exact .nilsl x
theorem Co.any (d : D) : Co d .any := fun _ _ v _ => .any v
theorem Co.inexact (rows : List D) (x : Bool) : Co (.sl x rows) (.sl false rows) := fun _ _ _ h => by
  cases h with
  | nilsl => exact .nilsl _
  | esl a => exact .esl a _
  | sl X h1 h2 h3 h4 h5 h6 h7 => exact .sl X h1 (fun h => by cases h) h3 h4 h5 h6 h7

inductive CoL : List D → List D → Prop
  | nil : CoL [] []
  | cons {d d' : D} {l l' : List D} : Co d d' → CoL l l' → CoL (d :: l) (d' :: l')

theorem CoL.refl : ∀ l, CoL l l
  | [] => .nil
  | d :: l => .cons (.refl d) (CoL.refl l)

theorem CoL.spec {l l' : List D} (h : CoL l l') : l.length = l'.length ∧ ∀ (i : Nat) d', l'[i]? = some d' → ∃ d, l[i]? = some d ∧ Co d d' := by
  induction h with
  | nil => exact ⟨rfl, fun i d' h => by simp at h⟩
  | cons h _ ih =>
    rename_i d d' l l' _
    refine ⟨by simp [ih.1], fun i d'' hd => ?_⟩
    cases i with
    | zero => simp at hd; subst hd; exact ⟨d, rfl, h⟩
    | succ i => exact ih.2 i d'' (by simpa using hd)

theorem Co.agg {cs cs' : List D} (h : CoL cs cs') : Co (.agg cs) (.agg cs') := fun G w v hv => by
  cases hv with
  | agg hs hV =>
    obtain ⟨h1, h2⟩ := h.spec
    exact .agg (hs.trans h1) fun i c d hc hd => let ⟨d0, k1, k2⟩ := h2 i d hd; k2 G w c (hV i c d0 hc k1)

def dels (σ : Sto) : List Nm → Sto
  | [] => σ
  | n :: r => dels (del σ n) r

theorem get_dels (σ : Sto) : ∀ (l : List Nm) (m : Nm), get (dels σ l) m = if m ∈ l then none else get σ m
  | [], m => by simp [dels]
  | n :: r, m => by
    simp only [dels]
    rw [get_dels _ r m, get_del]
    by_cases h1 : m ∈ r
    · rw [if_pos h1, if_pos (List.mem_cons_of_mem _ h1)]
    · rw [if_neg h1]
      by_cases h2 : n = m
      · rw [if_pos h2, if_pos (by rw [h2]; exact List.mem_cons_self)]
      · rw [if_neg h2, if_neg (by simp only [List.mem_cons, not_or]; exact ⟨fun e => h2 e.symm, h1⟩)]

theorem get_none_iff {σ : Sto} {m : Nm} : get σ m = none ↔ m ∉ σ.map (·.1) := by
  induction σ with
  | nil => simp [get]
  | cons p r ih =>
    obtain ⟨k, x⟩ := p
    simp only [get, List.map_cons, List.mem_cons, not_or]
    by_cases h : k = m
    · subst h; simp
    · rw [if_neg h, ih]
      exact ⟨fun h' => ⟨fun e => h e.symm, h'⟩, fun h' => h'.2⟩

/-- The operation's callee and its arguments, abstractly. -/
def calleeD (o : Oper) (e : Operand → D) : Option (FuncId × List D) :=
  match o.op with
  | .call c => match c.callee with
    | .value fo => match e fo with
      | .func (.func f) first captured => some (f, first ++ c.args.toList.map e ++ captured)
      | _ => none
    | _ => none
  | _ => none

section
variable {E : Ctx} {g : Nat} {o : Oper} {e : Operand → D} {κ : Kp}

theorem Vs.append {G : Gh} {w : World} {a b : Array Value} {x y : List D} (h1 : Vs G w a x) (h2 : Vs G w b y) : Vs G w (a ++ b) (x ++ y) := by
  refine ⟨by simp [h1.1, h2.1], fun i c d hc hd => ?_⟩
  have hs := h1.1
  by_cases hi : i < x.length
  · rw [List.getElem?_append_left hi] at hd
    rw [Array.getElem?_append_left (by omega)] at hc
    exact h1.2 i c d hc hd
  · rw [List.getElem?_append_right (by omega)] at hd
    rw [Array.getElem?_append_right (by omega)] at hc
    rw [hs] at hc
    exact h2.2 _ c d hc hd

theorem call_run {f : FuncId} {args : List D} (hc : calleeD o e = some (f, args)) {G : Gh} {w : World} {ρ : Operand → Value} (hV : ∀ x ∈ o.op.operands, V G w (ρ x) (e x)) (hcall : ∀ as w, (callFunc f as).run E.P w = .ok (.enter f as) w) :
    ∃ vs, (execOp ρ o).run E.P w = .ok (.enter f vs) w ∧ Vs G w vs args := by
  unfold calleeD at hc
  split at hc
  · rename_i c hop
    split at hc
    · rename_i fo hfo
      have hv := hV fo (by simp [hop, Op.operands, Call.operands, hfo])
      split at hc
      · rename_i f' first captured hef
        rw [hef] at hv
        cases hc
        generalize hρ : ρ fo = u at hv
        cases hv with
        | func h1 h2 h3 h4 =>
          rename_i fv cv
          refine ⟨fv ++ c.args.map ρ ++ cv, ?_, Vs.append (Vs.append ⟨h1, h3⟩ ⟨by simp, fun i x d hx hd => ?_⟩) ⟨h2, h4⟩⟩
          · simp only [execOp, hop, resolve, hfo, hρ, Deferred.ofValue, Sem.run_bind, Sem.run_pure, Result.andThen_ok, invoke]
            exact hcall _ _
          · simp only [Array.getElem?_map, Option.map_eq_some_iff] at hx
            obtain ⟨y, hy, rfl⟩ := hx
            simp only [List.getElem?_map, Array.getElem?_toList, hy, Option.map_some, Option.some.injEq] at hd
            subst hd
            refine hV y ?_
            simp only [hop, Op.operands, Call.operands, hfo]
            exact Array.mem_append.2 (.inr (Array.mem_of_getElem? hy))
      · cases hc
    · cases hc
  · cases hc

/-- A call, whatever it does to the objects that it is handed. -/
theorem top_call {f : FuncId} {args args' : List D} {σ σs σ' : Sto} {d : Nat} {r : D} (hc : calleeD o e = some (f, args)) (hco : CoL args args') (hd : o.dst = some d) (h : ACalls E f args' σs g d r σ') (hsub : ∀ p ∈ σs, get σ p.1 = some p.2) :
    TOp E g o e (get σ) r (get (σ' ++ dels σ (σs.map (·.1)))) := by
  intro w0 hA G w a hw hV ho hf K Q' hK
  obtain ⟨vs, hrun, hvs⟩ := call_run hc hV h.call
  obtain ⟨hcl, hcs⟩ := hco.spec
  have hvs' : Vs G w vs args' := ⟨hvs.1.trans hcl, fun i c d' hx hd' => let ⟨d0, k1, k2⟩ := hcs i d' hd'; k2 G w c (hvs.2 i c d0 hx k1)⟩
  have hsub' : ∀ n o, get σs n = some o → get σ n = some o := fun n o hn => hsub (n, o) (mem_of_get hn)
  have hrun2 := h.run w0 hA G w vs hw hvs' (ho.sub hsub') (hf d hd)
  unfold Oper.wp
  rw [hrun]
  refine Calls.mono hrun2 ?_
  rintro en w' ⟨v, G', rfl, hw', hv, ho', hs⟩
  obtain ⟨f1, f2⟩ := frame (κs := get σs) (τ := get (dels σ (σs.map (·.1)))) hw ho hsub' (fun n o' hn => by
    rw [get_dels] at hn
    split at hn
    · cases hn
    · rename_i hnm
      exact ⟨hn, get_none_iff.2 hnm⟩) hs ho'
  rw [← get_append] at f1 f2
  exact hK G' w' v hw' hv f1 (f2.weaken fun n _ hn => by rw [hd]; exact hn)

/-- A call that leaves the objects that it is handed as they were. -/
theorem qop_call {f : FuncId} {args args' : List D} {σ σs nw : Sto} {d : Nat} {r : D} (hc : calleeD o e = some (f, args)) (hco : CoL args args') (hd : o.dst = some d) (h : ACalls E f args' σs g d r (nw ++ σs)) (hsub : ∀ p ∈ σs, get σ p.1 = some p.2) :
    QOp E g o e (get σ) r nw := by
  intro w0 hA G w a hw hV ho hf K Q' hK
  have hsub' : ∀ n o, get σs n = some o → get σ n = some o := fun n o hn => hsub (n, o) (mem_of_get hn)
  have he : get ((nw ++ σs) ++ dels σ (σs.map (·.1))) = Kp.or (get nw) (get σ) := by
    rw [get_append, get_append]
    funext n
    simp only [Kp.or]
    cases h1 : get nw n with
    | some x => simp
    | none =>
      simp only [Option.none_or]
      cases h2 : get σs n with
      | some x => rw [hsub' n x h2]; simp
      | none => rw [get_dels, if_neg (get_none_iff.1 h2)]; simp
  have := top_call hc hco hd h hsub w0 hA G w a hw hV ho hf K Q'
  rw [he] at this
  exact this hK

/-! ### Into a function and out of it -/

def argsEnv : Nat → List D → List (Nat × D)
  | _, [] => []
  | k, a :: r => (k, a) :: argsEnv (k + 1) r

theorem lk_argsEnv : ∀ (k : Nat) (l : List D) (t : Nat) (d : D), lk (argsEnv k l) t = some d → k ≤ t ∧ l[t - k]? = some d
  | _, [], _, _, h => by simp [argsEnv, lk] at h
  | k, a :: r, t, d, h => by
    simp only [argsEnv, lk] at h
    split at h
    · rename_i he
      subst he
      cases h
      simp
    · obtain ⟨h1, h2⟩ := lk_argsEnv (k + 1) r t d h
      refine ⟨by omega, ?_⟩
      rw [show t - k = (t - (k + 1)) + 1 by omega, List.getElem?_cons_succ]
      exact h2

/-- At a function's end: what it hands back, and what is left. -/
def Ends (E : Ctx) (fn : Func) (g d : Nat) (r : D) (σ' : Sto) (st : St) : Prop :=
  ∀ w0, E.A w0 → ∀ G w a, Rel w0 G w a st → (g < G.top ∧ ∀ j, G.ρ ⟨g, d, j⟩ = none) →
    ∃ v G', (results fn a.tmps).run E.P w = .ok v w ∧ WF w0 G' w ∧ V G' w v r ∧ Objs w0 G' w (get σ') ∧ Step (rsv g (some d)) G w (get st.σ) G' w (get σ')

def retQ (E : Ctx) (fn : Func) (g d : Nat) (r : D) (σ' : Sto) : Exit → St → Prop
  | .normal, st => Ends E fn g d r σ' st
  | .ret, st => Ends E fn g d r σ' st
  | _, _ => False

theorem acalls_of_awp {f : FuncId} {fn : Func} {c : Code} {N d : Nat} {args : List D} {σ σ' : Sto} {r : D} (hcall : ∀ as w, (callFunc f as).run E.P w = .ok (.enter f as) w) (hf : E.P.funcs[f]? = some fn) (hb : fn.body = some c) (hN : fn.ntmps = N) (hargs : args.length ≤ N)
    (h : AWp E N c (retQ E fn g d r σ') ⟨argsEnv 0 args, σ⟩) : ACalls E f args σ g d r σ' := by
  refine ⟨hcall, fun w0 hA G w vs hw hvs ho hfr => ?_⟩
  refine calls_of_wp hf hb ?_
  have hsz : (vs ++ Array.replicate (fn.ntmps - vs.size) undef).size = N := by
    have := hvs.1
    simp
    omega
  refine wp_mono (h w0 hA G w _ hsz ⟨hw, fun t x ht => ?_, ho, rfl⟩) ?_
  · obtain ⟨_, h2⟩ := lk_argsEnv 0 args t x ht
    simp only [Nat.sub_zero] at h2
    have hlt : t < vs.size := by
      have := (List.getElem?_eq_some_iff.1 h2).1
      have := hvs.1
      omega
    refine ⟨by rw [hsz]; have := hvs.1; omega, ?_⟩
    rw [Array.getD_eq_getD_getElem?, Array.getElem?_append_left hlt]
    simp only [hlt, getElem?_pos, Option.getD_some]
    exact hvs.2 t _ x (by simp [hlt]) h2
  · rintro en a' w' ⟨G', st', h1, h2, h3, h4⟩
    have key : Ends E fn g d r σ' st' → ∃ v, (results fn a'.tmps).run E.P w' = .ok v w' ∧ ∃ v' G'', Ending.returned v = .returned v' ∧ WF w0 G'' w' ∧ V G'' w' v' r ∧ Objs w0 G'' w' (get σ') ∧ Step (rsv g (some d)) G w (get σ) G'' w' (get σ') := by
      intro he
      obtain ⟨v, G'', k1, k2, k3, k4, k5⟩ := he w0 hA G' w' a' h2 ⟨Nat.lt_of_lt_of_le hfr.1 h3.top, fun j => h3.fresh hfr.1 (hfr.2 j) fun h => h⟩
      exact ⟨v, k1, v, G'', rfl, k2, k3, k4, (h3.weaken fun _ _ h => h.elim).trans k5⟩
    cases en with
    | normal => obtain ⟨v, k1, k2⟩ := key h4; exact ⟨h2.defers, v, k1, k2⟩
    | ret => obtain ⟨v, k1, k2⟩ := key h4; exact ⟨h2.defers, v, k1, k2⟩
    | _ => exact h4.elim

theorem Ends.sees {fn : Func} {d : Nat} {r : D} {σ' : Sto} {st : St} (h : Sees E st (Ends E fn g d r σ')) : Ends E fn g d r σ' st := by
  intro w0 hA G w a hr hfr
  obtain ⟨G1, st1, h1, h2, h3⟩ := h w0 hA G w a hr
  obtain ⟨v, G2, k1, k2, k3, k4, k5⟩ := h3 w0 hA G1 w a h1 ⟨Nat.lt_of_lt_of_le hfr.1 h2.top, fun j => h2.fresh hfr.1 (hfr.2 j) fun h => h⟩
  exact ⟨v, G2, k1, k2, k3, k4, (h2.weaken fun _ _ h => h.elim).trans k5⟩

/-- The results, abstractly. -/
def resD (P : Program) (st : St) : List ResultVar → Option (List D)
  | [] => some []
  | .tmp t :: r => match lk st.env t, resD P st r with
    | some d, some ds => some (d :: ds)
    | _, _ => none
  | .cell a t :: r => match lk st.env a, resD P st r with
    | some p, some ds => match loadD P (get st.σ) t p with
      | some d => some (d :: ds)
      | none => none
    | _, _ => none

def resV (ds : List D) : D :=
  match ds with
  | [d] => d
  | ds => .tup ds

def resOne (tmps : Array Value) : ResultVar → Sem Value
  | .tmp t => pure (tmps.getD t undef)
  | .cell p t => do loadVar t (← asAddr (tmps.getD p undef))

theorem results_eq (fn : Func) (tmps : Array Value) : results fn tmps = (do
    let vs ← fn.results.mapM (resOne tmps)
    pure (if h : vs.size = 1 then vs[0] else .tuple vs)) := by
  unfold results
  congr 1

theorem cell_run {G : Gh} {w : World} {σ : Sto} {u y : Value} {pd d : D} {t : TypeId} (hp : V G w u pd) (hld : loadD E.P (get σ) t pd = some d) (hy : (Instr.loadAt t u).run E.P w = .ok y w) : (do loadVar t (← asAddr u) : Sem Value).run E.P w = .ok y w := by
  cases hp <;> simp [loadD] at hld <;> simpa [Instr.loadAt, Instr.sureAddr, asAddr] using hy

theorem res_run {w0 : World} {G : Gh} {w : World} {a : Act} {st : St} (hr : Rel w0 G w a st) : ∀ (l : List ResultVar) (ds : List D), resD E.P st l = some ds →
    ∃ vs : List Value, (l.mapM (resOne a.tmps)).run E.P w = .ok vs w ∧ Vs G w vs.toArray ds
  | [], ds, h => by
    simp only [resD, Option.some.injEq] at h
    subst h
    exact ⟨[], rfl, rfl, fun i c d hc _ => by simp at hc⟩
  | .tmp t :: r, ds, h => by
    simp only [resD] at h
    split at h
    · rename_i d ds' hl hds
      cases h
      obtain ⟨vs, h1, h2⟩ := res_run hr r ds' hds
      refine ⟨a.tmps.getD t undef :: vs, ?_, ?_, fun i c d' hc hd => ?_⟩
      · rw [List.mapM_cons, Sem.run_bind]
        simp only [resOne, Sem.run_pure, Result.andThen_ok, Sem.run_bind, h1]
      · have := h2.1
        simpa using this
      · cases i with
        | zero => simp only [List.getElem?_toArray, List.getElem?_cons_zero, Option.some.injEq] at hc hd; subst hc; subst hd; exact (hr.env t d hl).2
        | succ i => exact h2.2 i c d' (by simpa using hc) (by simpa using hd)
    · cases h
  | .cell p t :: r, ds, h => by
    simp only [resD] at h
    split at h
    · rename_i pd ds' hl hds
      split at h
      · rename_i d hld
        cases h
        obtain ⟨vs, h1, h2⟩ := res_run hr r ds' hds
        have hp := (hr.env p pd hl).2
        obtain ⟨y, hy, hv⟩ := load_run (P := E.P) hr.objs hp hld
        have hy' : (resOne a.tmps (.cell p t)).run E.P w = .ok y w := cell_run hp hld hy
        refine ⟨y :: vs, ?_, ?_, fun i c d' hc hd => ?_⟩
        · rw [List.mapM_cons, Sem.run_bind, hy']
          simp only [Sem.run_pure, Result.andThen_ok, Sem.run_bind, h1]
        · have := h2.1
          simpa using this
        · cases i with
          | zero => simp only [List.getElem?_toArray, List.getElem?_cons_zero, Option.some.injEq] at hc hd; subst hc; subst hd; exact hv
          | succ i => exact h2.2 i c d' (by simpa using hc) (by simpa using hd)
      · cases h
    · cases h

theorem results_run {w0 : World} {G : Gh} {w : World} {a : Act} {st : St} (hr : Rel w0 G w a st) {fn : Func} {l : List ResultVar} (hl : fn.results = l.toArray) {ds : List D} (h : resD E.P st l = some ds) :
    ∃ v, (results fn a.tmps).run E.P w = .ok v w ∧ V G w v (resV ds) := by
  obtain ⟨vs, h1, h2⟩ := res_run (E := E) hr l ds h
  have hlen := h2.1
  simp only [List.size_toArray] at hlen
  refine ⟨if h : vs.toArray.size = 1 then vs.toArray[0] else .tuple vs.toArray, ?_, ?_⟩
  · rw [results_eq, hl, Sem.run_bind, Array.mapM_eq_mapM_toList]
    simp only [Sem.run_map, h1, Result.andThen_ok, Sem.run_pure]
  · match vs, ds, hlen with
    | [], [], _ => exact .tup rfl (fun i c d hc _ => by simp at hc)
    | [v], [d], _ => exact h2.2 0 v d rfl rfl
    | v :: v' :: vs, d :: d' :: ds, _ =>
      simp only [resV]
      rw [dif_neg (by simp)]
      exact .tup h2.1 h2.2

/-- The plain end: the results as they stand; some objects are dropped. -/
theorem ends_plain {fn : Func} {d : Nat} {r : D} {σ' : Sto} {st : St} {l : List ResultVar} (hl : fn.results = l.toArray) {ds : List D} (h : resD E.P st l = some ds) (hco : Co (resV ds) r) (hσ : ∀ p ∈ σ', get st.σ p.1 = some p.2) : Ends E fn g d r σ' st := by
  intro w0 _ G w a hr _
  obtain ⟨v, h1, h2⟩ := results_run (E := E) hr hl h
  have hs : ∀ n o, get σ' n = some o → get st.σ n = some o := fun n o hn => hσ (n, o) (mem_of_get hn)
  exact ⟨v, G, h1, hr.wf, hco G w v h2, hr.objs.sub hs, .drop hs⟩

end
end Go.Ab
