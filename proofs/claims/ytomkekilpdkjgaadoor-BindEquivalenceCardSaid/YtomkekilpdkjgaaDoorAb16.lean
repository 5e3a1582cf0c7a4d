/- A part of the proof, under no conditions of its own: Ab16. -/
import Derived.Test.YtomkekilpdkjgaaDoorAb15
import Derived.KernelRfl
/-
  The rules in the form in which proofs use them: what is evaluated stands in the goal.
-/
namespace Go.Ab
open Go Go.RowKit

def SomeP {α : Type} : Option α → (α → Prop) → Prop
  | some x, p => p x
  | none, _ => False

theorem SomeP.elim {α : Type} {o : Option α} {p : α → Prop} (h : SomeP o p) : ∃ x, o = some x ∧ p x := by
  cases o with
  | none => exact (show False from h).elim
  | some x => exact ⟨x, rfl, h⟩

section
variable {E : Ctx} {N : Nat} {st : St} {K : St → Prop} {Q : Exit → St → Prop}

/-- A region without a call. -/
theorem awp_plain {id : Nat} {l : List Oper} {ds : List (Option Tmp)} (n : Nat) (hd : dstsOk N l = true) (hds : l.map (·.dst) = ds)
    (h : ∀ g, (∀ i j, get st.σ ⟨g, i, j⟩ = none) → SomeP (arun E ds g n l st) fun r => r.1 = [] ∧ Q .normal r.2) : AWp E N (.region id l.toArray false) Q st := by
  refine awp_region hd fun g hg => ?_
  obtain ⟨⟨l', st'⟩, h1, h2, h3⟩ := (h g hg).elim
  simp only at h2
  subst h2
  exact aops_run n hds h1 (aops_nil h3)

/-- A region with calls, operation after operation. -/
theorem awp_ops {id : Nat} {l : List Oper} {ds : List (Option Tmp)} (hd : dstsOk N l = true) (hds : l.map (·.dst) = ds)
    (h : ∀ g, (∀ i j, get st.σ ⟨g, i, j⟩ = none) → ∀ (ops : List Oper) (K : St → Prop), ops.map (·.dst) = ds → (∀ s, Q .normal s → K s) → AOps E N ops g K l st) : AWp E N (.region id l.toArray false) Q st :=
  awp_region hd fun g hg => h g hg l _ hds fun _ h => h

variable {ops l : List Oper} {ds : List (Option Tmp)} {g : Nat} {σ0 : Sto}

theorem aops_eval (n : Nat) (hds : ops.map (·.dst) = ds) (h : SomeP (arun E ds g n l st) fun r => AOps E N ops g K r.1 r.2) : AOps E N ops g K l st := by
  obtain ⟨⟨l', st'⟩, h1, h2⟩ := h.elim
  exact aops_run n hds h1 h2

/-- The last operations of a region. -/
theorem aops_last (n : Nat) (hds : ops.map (·.dst) = ds) (h : SomeP (arun E ds g n l st) fun r => r.1 = [] ∧ K r.2) : AOps E N ops g K l st := by
  obtain ⟨⟨l', st'⟩, h1, h2, h3⟩ := h.elim
  simp only at h2
  subst h2
  exact aops_run n hds h1 (aops_nil h3)

theorem qrun_eval (n : Nat) (hds : ops.map (·.dst) = ds) (h : SomeP (qrun E ds g σ0 n l st) fun r => QRun E ops g σ0 K r.1 r.2) : QRun E ops g σ0 K l st := by
  obtain ⟨⟨l', st'⟩, h1, h2⟩ := h.elim
  exact qrun_run n hds h1 h2

/-- The last operations of a first part. -/
theorem qrun_last (n : Nat) (hds : ops.map (·.dst) = ds) (h : SomeP (qrun E ds g σ0 n l st) fun r => r.1 = [] ∧ K r.2) : QRun E ops g σ0 K l st := by
  obtain ⟨⟨l', st'⟩, h1, h2, h3⟩ := h.elim
  simp only at h2
  subst h2
  exact qrun_run n hds h1 (qrun_nil h3)

/-- A region that draws; 'nq': the length of its first part. -/
theorem awp_any {id : Nat} {l : List Oper} {ds : List (Option Tmp)} (nq : Nat) (hnq : decide (nq ≤ l.length) = true) (hok : regOk N l nq = true) (hds : l.map (·.dst) = ds)
    (h : ∀ g, (∀ i j, get st.σ ⟨g, i, j⟩ = none) → ∀ (ops : List Oper) (K : St → Prop), ops.map (·.dst) = ds → (∀ s, Q .normal s → K s) → QRun E ops g st.σ (AOps E N ops g K (l.drop nq)) (l.take nq) st) : AWp E N (.region id l.toArray true) Q st :=
  awp_draw nq (by simpa using hnq) hok fun g hg => h g hg l _ hds fun _ h => h

/-- The same where nothing is written. -/
theorem awp_anyq {id : Nat} {l : List Oper} {ds : List (Option Tmp)} (hok : regOk N l l.length = true) (hds : l.map (·.dst) = ds)
    (h : ∀ g, (∀ i j, get st.σ ⟨g, i, j⟩ = none) → ∀ (ops : List Oper) (K : St → Prop), ops.map (·.dst) = ds → (∀ s, Q .normal s → K s) → QRun E ops g st.σ K l st) : AWp E N (.region id l.toArray true) Q st :=
  awp_draw l.length (Nat.le_refl _) hok fun g hg => by
    rw [List.take_length, List.drop_length]
    obtain ⟨tr, env', h1, h2⟩ := h g hg l _ hds fun _ h => h
    exact ⟨tr, env', h1, aops_nil h2⟩

theorem awp_if {c : Operand} {x y : Code} {b : Bool} (hc : ev E st.env c = .val (.bool b)) (ht : b = true → AWp E N x Q st) (hf : b = false → AWp E N y Q st) : AWp E N (.cond c x y) Q st := by
  refine awp_cond hc ?_
  cases b
  · exact hf rfl
  · exact ht rfl

/-- The rest of what is known is dropped. -/
theorem awp_keep {c : Code} {st' : St} (hl : Le st' st) (h : AWp E N c Q st') : AWp E N c Q st := Sees.awp (Sees.keep hl h)

end

/-- 'Le', entry by entry. -/
def leE : List (Nat × D) → List (Nat × D) → Prop
  | [], _ => True
  | (t, d) :: r, e => lk e t = some d ∧ leE r e

def leS : Sto → Sto → Prop
  | [], _ => True
  | (n, o) :: r, σ => get σ n = some o ∧ leS r σ

theorem leE_spec : ∀ {l e : List (Nat × D)}, leE l e → ∀ p ∈ l, lk e p.1 = some p.2
  | [], _, _, p, hp => by cases hp
  | (t, d) :: r, e, h, p, hp => by
    rcases List.mem_cons.1 hp with rfl | hp
    · exact h.1
    · exact leE_spec h.2 p hp

theorem leS_spec : ∀ {l σ : Sto}, leS l σ → ∀ p ∈ l, get σ p.1 = some p.2
  | [], _, _, p, hp => by cases hp
  | (n, o) :: r, σ, h, p, hp => by
    rcases List.mem_cons.1 hp with rfl | hp
    · exact h.1
    · exact leS_spec h.2 p hp

theorem le_of {st st' : St} (h : leE st'.env st.env ∧ leS st'.σ st.σ) : Le st' st := ⟨leE_spec h.1, leS_spec h.2⟩

theorem wrapN (x : Int) (h1 : -9223372036854775808 ≤ x) (h2 : x ≤ 9223372036854775807) : IntKind.i64.wrap x = x := by
  simp only [IntKind.wrap, IntKind.bits, IntKind.signed, Bool.true_and, decide_eq_true_eq, ge_iff_le]
  have e : (2 : Int) ^ 64 = 18446744073709551616 := by decide
  have e2 : (2 : Int) ^ (64 - 1) = 9223372036854775808 := by decide
  rw [e, e2]
  split <;> omega

theorem at_nat (rows : List D) (k : Nat) : at? rows (k : Int) = rows[k]? := by simp [at?]
theorem at_lit (rows : List D) (k : Nat) : at? rows (OfNat.ofNat k : Int) = rows[k]? := by
  have : (OfNat.ofNat k : Int) = ((k : Nat) : Int) := rfl
  rw [this, at_nat]

section
variable (f : D → D) (v : Value) (cs ds : List D) (x : Bool) (n : Nm) (i j k : Nat) (fn : Fn) (t : TypeId) (d : D)
@[go_sem] theorem cells_agg : (D.agg cs).cells = cs := rfl
@[go_sem] theorem cells_val : (D.val v).cells = [.val v] := rfl
@[go_sem] theorem cells_sl : (D.sl x cs).cells = [.sl x cs] := rfl
@[go_sem] theorem cells_own : (D.own n i).cells = [.own n i] := rfl
@[go_sem] theorem cells_ptr : (D.ptr n i).cells = [.ptr n i] := rfl
@[go_sem] theorem cells_aptr : (D.aptr n i j k).cells = [.aptr n i j k] := rfl
@[go_sem] theorem cells_eptr : (D.eptr cs).cells = [.eptr cs] := rfl
@[go_sem] theorem cells_mref : (D.mref n).cells = [.mref n] := rfl
@[go_sem] theorem cells_func : (D.func fn cs ds).cells = [.func fn cs ds] := rfl
@[go_sem] theorem cells_iface : (D.iface t d).cells = [.iface t d] := rfl
@[go_sem] theorem one_val : (D.val v).one = v.oneCell' := rfl
@[go_sem] theorem one_sl : (D.sl x cs).one = true := rfl
@[go_sem] theorem one_own : (D.own n i).one = true := rfl
@[go_sem] theorem one_ptr : (D.ptr n i).one = true := rfl
@[go_sem] theorem one_aptr : (D.aptr n i j k).one = true := rfl
@[go_sem] theorem one_eptr : (D.eptr cs).one = true := rfl
@[go_sem] theorem one_mref : (D.mref n).one = true := rfl
@[go_sem] theorem one_func : (D.func fn cs ds).one = true := rfl
@[go_sem] theorem one_iface : (D.iface t d).one = true := rfl
@[go_sem] theorem sub_agg : (D.agg cs).sub f = .agg (cs.map f) := rfl
@[go_sem] theorem sub_tup : (D.tup cs).sub f = .tup (cs.map f) := rfl
@[go_sem] theorem sub_func : (D.func fn cs ds).sub f = .func fn (cs.map f) (ds.map f) := rfl
@[go_sem] theorem sub_val : (D.val v).sub f = f (.val v) := rfl
@[go_sem] theorem sub_sl : (D.sl x cs).sub f = f (.sl x cs) := rfl
@[go_sem] theorem sub_own : (D.own n i).sub f = f (.own n i) := rfl
@[go_sem] theorem sub_ptr : (D.ptr n i).sub f = f (.ptr n i) := rfl
@[go_sem] theorem sub_aptr : (D.aptr n i j k).sub f = f (.aptr n i j k) := rfl
@[go_sem] theorem sub_eptr : (D.eptr cs).sub f = f (.eptr cs) := rfl
@[go_sem] theorem sub_mref : (D.mref n).sub f = f (.mref n) := rfl
@[go_sem] theorem sub_iface : (D.iface t d).sub f = f (.iface t d) := rfl
end

attribute [go_sem] SomeP arun stepD wantL storeD dop dopR lk ev ofV loadD cut nilD intD strD boolD ptrD eqR binD unD convD numsOf fieldAddrD fieldD indexAddrD indexD lenD over fillD buildD setRows buildSliceD
  get set del dels St.put St.env' putE stepQ qrun calleeD thenQ blockQ argsEnv resD resV mapEnv mapSto frzD boxD Ob.sub newSto renD look nwOk at_nat at_lit
  Nm.mk.injEq accN leE leS Option.some.injEq D.val.injEq Value.int.injEq D.own.injEq D.sl.injEq D.agg.injEq D.ptr.injEq Ob.box.injEq Ob.arr.injEq List.cons.injEq Value.bool.injEq Value.string.injEq Int.ofNat_lt Int.ofNat_le decide_true decide_false Option.isSome_some Option.isSome_none beq_true beq_false
  List.drop_zero List.drop_succ_cons List.drop_nil List.take_zero List.take_succ_cons List.take_nil List.length_cons List.length_nil List.all_cons List.all_nil List.map_cons List.map_nil List.head?_cons
  List.getElem?_cons_zero List.getElem?_cons_succ List.append_nil List.nil_append List.cons_append List.set_cons_zero List.set_cons_succ List.replicate_succ List.replicate_zero
  Option.map_some Option.map_none Option.bind_some Option.bind_none Option.getD_some Option.getD_none
  Nat.reduceEqDiff Nat.reduceAdd Nat.reduceLeDiff Nat.reduceLT Nat.reduceMul Int.reduceEq Int.reduceNe Int.reduceLT Int.reduceLE Int.reduceNeg Int.reduceToNat Nat.zero_add Nat.add_zero
  if_true if_false Bool.false_eq_true reduceIte reduceCtorEq and_true true_and and_false false_and and_self Bool.and_true Bool.true_and Bool.and_false Bool.false_and Bool.or_false Bool.false_or Bool.not_true Bool.not_false beq_self_eq_true
  Value.oneCell' Value.cells

end Go.Ab
