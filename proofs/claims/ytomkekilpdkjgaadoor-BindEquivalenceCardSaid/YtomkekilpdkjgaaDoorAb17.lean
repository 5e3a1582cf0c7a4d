/- A part of the proof, under no conditions of its own: Ab17. -/
import Derived.Test.YtomkekilpdkjgaaDoorDat
/-
  Small rules for printed proofs.
-/
namespace Go.Ab
open Go Go.RowKit
section
variable {E : Ctx} {N : Nat} {st : St} {K : St → Prop} {Q : Exit → St → Prop}
theorem awp_t {c : Operand} {x y : Code} (hc : ev E st.env c = .val (.bool true)) (h : AWp E N x Q st) : AWp E N (.cond c x y) Q st := awp_cond hc (by simpa using h)
theorem awp_f {c : Operand} {x y : Code} (hc : ev E st.env c = .val (.bool false)) (h : AWp E N y Q st) : AWp E N (.cond c x y) Q st := awp_cond hc (by simpa using h)

/-- No name of this generation stands for an object. -/
def Fresh (σ : Sto) (g : Nat) : Prop := ∀ i j, get σ ⟨g, i, j⟩ = none

theorem fresh_g {σ : Sto} {g a : Nat} (hg : ∀ i j, get σ ⟨g, i, j⟩ = none) (i j : Nat) (h : get σ ⟨a, i, j⟩ ≠ none) : g ≠ a := fun e => h (e ▸ hg i j)

/-- The rows of an array object. -/
def arrOf (el : TypeId) (k : Nat) : Ob → Option (List D)
  | .arr t k' rows => if t = el ∧ k' = k then some rows else none
  | _ => none

theorem okRows_iff (k : Nat) (r : D) (l : List D) : okRows k (r :: l) ↔ (r.cells.length = k ∧ r.cells.all D.one = true) ∧ okRows k l :=
  ⟨fun h => ⟨h r List.mem_cons_self, fun x hx => h x (List.mem_cons_of_mem _ hx)⟩, fun h => okRows_cons h.1 h.2⟩
theorem okRows_nil' (k : Nat) : okRows k [] ↔ True := ⟨fun _ => trivial, fun _ => okRows_nil k⟩

variable {ops : List Oper} {ds : List (Option Tmp)} {g : Nat}

theorem aops_app {o : Oper} {r : List Oper} {t el : TypeId} {so x : Operand} {d : Nat} (hds : ops.map (·.dst) = ds) (hw : wantL ds st.env o.guard = some true) (hop : o.op = .call { callee := .builtin .append, args := #[so, x], argTypes := #[t, t] }) (hd : o.dst = some d)
    {n : Nm} {len : Nat} (hs : ev E st.env so = .own n len) {xf : Bool} {rows2 : List D} (hx : ev E st.env x = .sl xf rows2) {k : Nat}
    (he : elemS E.P t = some el) (hk : szOf E.P el = some k) {bs : Nat} (hbs : bytesOf E.P el = some bs) {z : Value} (hz : zeroOf E.P el = some z) (hzs : z.cells.size = k) (hk0 : 0 < k)
    (h : SomeP (get st.σ n) fun ob => SomeP (arrOf el k ob) fun rows => okRows k rows2 ∧ (rows.length + rows2.length ≤ 9223372036854775807 ∧ (rows.length + rows2.length) * bs ≤ 140737488355328) ∧
      AOps E N ops g K r { env := (d, .own ⟨g, d, 0⟩ (rows.length + rows2.length)) :: st.env, σ := (⟨g, d, 0⟩, .arr el k (rows ++ rows2)) :: del st.σ n }) : AOps E N ops g K (o :: r) st := by
  obtain ⟨ob, h1, h⟩ := h.elim
  obtain ⟨rows, h2, h3, h4, h5⟩ := h.elim
  cases ob with
  | arr t' k' rows' =>
    simp only [arrOf] at h2
    split at h2
    · rename_i hc
      obtain ⟨rfl, rfl⟩ := hc
      cases h2
      exact aops_append hds hw hop hd hs h1 hx he hk hbs hz hzs hk0 h3 h4.1 h4.2 h5
    · cases h2
  | _ => cases h2
end

def rowsOf : Ob → Option (List D)
  | .arr _ _ rows => some rows
  | _ => none
def boxOf : Ob → Option (TypeId × List D)
  | .box t cs => some (t, cs)
  | _ => none
def cellsOf : Ob → Option (List D)
  | .box _ cs => some cs
  | _ => none

section
variable {E : Ctx} {N : Nat} {st : St} {Q : Exit → St → Prop}
theorem sees_frz {K : St → Prop} (n : Nm) (h : SomeP (get st.σ n) fun ob => SomeP (rowsOf ob) fun rows => K { env := mapEnv (frzD n rows) st.env, σ := mapSto (frzD n rows) (del st.σ n) }) : Sees E st K := by
  obtain ⟨ob, h1, h⟩ := h.elim
  obtain ⟨rows, h2, h⟩ := h.elim
  cases ob with
  | arr t k rows' => cases h2; exact sees_freeze n h1 h
  | _ => cases h2
theorem sees_still_box {K : St → Prop} (n : Nm) (h : SomeP (get st.σ n) fun ob => SomeP (cellsOf ob) fun cs => K { env := mapEnv (boxD n cs) st.env, σ := mapSto (boxD n cs) (del st.σ n) }) : Sees E st K := by
  obtain ⟨ob, h1, h⟩ := h.elim
  obtain ⟨rows, h2, h⟩ := h.elim
  cases ob with
  | box t cs => cases h2; exact sees_box n h1 h
  | _ => cases h2
theorem awp_frz {c : Code} (n : Nm) (h : SomeP (get st.σ n) fun ob => SomeP (rowsOf ob) fun rows => AWp E N c Q { env := mapEnv (frzD n rows) st.env, σ := mapSto (frzD n rows) (del st.σ n) }) : AWp E N c Q st := Sees.awp (sees_frz n h)
theorem awp_still {c : Code} (n : Nm) (h : SomeP (get st.σ n) fun ob => SomeP (cellsOf ob) fun cs => AWp E N c Q { env := mapEnv (boxD n cs) st.env, σ := mapSto (boxD n cs) (del st.σ n) }) : AWp E N c Q st := Sees.awp (sees_still_box n h)
theorem awp_nil {c : Code} (t : Nat) (ty : TypeId) (k : Nat) (ht : lk st.env t = some (.val (.slice none 0 0))) (h : ∀ g, (∀ i j, get st.σ ⟨g, i, j⟩ = none) → AWp E N c Q { env := (t, .own ⟨g, 0, 0⟩ 0) :: st.env, σ := (⟨g, 0, 0⟩, .arr ty k []) :: st.σ }) : AWp E N c Q st := Sees.awp (sees_nil t ty k ht h)
theorem awp_nil_box {c : Code} (m : Nm) (i : Nat) (ty : TypeId) (k : Nat)
    (h : SomeP (get st.σ m) fun ob => SomeP (boxOf ob) fun b => b.2[i]? = some (.val (.slice none 0 0)) ∧ ∀ g, Fresh st.σ g → AWp E N c Q { env := st.env, σ := (⟨g, 0, 0⟩, .arr ty k []) :: set st.σ m (.box b.1 (b.2.set i (.own ⟨g, 0, 0⟩ 0))) }) : AWp E N c Q st := by
  obtain ⟨ob, h1, h⟩ := h.elim
  obtain ⟨b, h2, h3, h⟩ := h.elim
  cases ob with
  | box t cs => cases h2; exact Sees.awp (sees_nil_box m i ty k h1 h3 h)
  | _ => cases h2
theorem ret_frz {fn : Func} {g d : Nat} {r : D} {σ' : Sto} (n : Nm) (h : SomeP (get st.σ n) fun ob => SomeP (rowsOf ob) fun rows => retQ E fn g d r σ' .ret { env := mapEnv (frzD n rows) st.env, σ := mapSto (frzD n rows) (del st.σ n) }) : retQ E fn g d r σ' .ret st := Ends.sees (sees_frz n h)
end

theorem ends_ev {E : Ctx} {st : St} {fn : Func} {g d : Nat} {r : D} {l : List ResultVar} (hl : fn.results = l.toArray) (h : SomeP (resD E.P st l) fun ds => Co (resV ds) r) : retQ E fn g d r [] .ret st := by
  obtain ⟨ds, h1, h2⟩ := h.elim
  exact ends_plain hl h1 h2 fun p hp => nomatch hp

/-! Ends that hand new objects back, evaluated. -/
def obsOf (σ : Sto) : List Nm → Nat → Option (List (Nm × Nat × Ob))
  | [], _ => some []
  | n :: r, j => match get σ n with
    | some o => (obsOf σ r (j + 1)).map fun l => (n, j, o) :: l
    | none => none
def notIn (n : Nm) : List Nm → Prop
  | [] => True
  | m :: r => ¬ n = m ∧ notIn n r
def apart : List Nm → Prop
  | [] => True
  | n :: r => notIn n r ∧ apart r

theorem obsOf_get {σ : Sto} : ∀ {ns : List Nm} {j : Nat} {l : List (Nm × Nat × Ob)}, obsOf σ ns j = some l → ∀ e ∈ l, get σ e.1 = some e.2.2 ∧ e.1 ∈ ns ∧ j ≤ e.2.1 ∧ look l e.2.1 = some (e.1, e.2.2)
  | [], j, l, h, e, he => by simp only [obsOf, Option.some.injEq] at h; subst h; cases he
  | n :: r, j, l, h, e, he => by
    simp only [obsOf] at h
    split at h
    · rename_i o ho
      cases hr : obsOf σ r (j + 1) with
      | none => rw [hr] at h; cases h
      | some l' =>
        rw [hr] at h
        cases h
        rcases List.mem_cons.1 he with rfl | he'
        · exact ⟨ho, List.mem_cons_self, Nat.le_refl _, by simp [look]⟩
        · obtain ⟨h1, h2, h3, h4⟩ := obsOf_get hr e he'
          exact ⟨h1, List.mem_cons_of_mem _ h2, by omega, by simp only [look]; rw [if_neg (by omega)]; exact h4⟩
    · cases h

theorem notIn_spec {n : Nm} : ∀ {l : List Nm}, notIn n l → n ∉ l
  | [], _ => by simp
  | m :: r, h => by simp only [List.mem_cons, not_or]; exact ⟨h.1, notIn_spec h.2⟩

theorem obsOf_ne {σ : Sto} : ∀ {ns : List Nm} {j : Nat} {l : List (Nm × Nat × Ob)}, apart ns → obsOf σ ns j = some l → ∀ e ∈ l, ∀ e' ∈ l, e.2.1 ≠ e'.2.1 → e.1 ≠ e'.1
  | [], j, l, _, h, e, he => by simp only [obsOf, Option.some.injEq] at h; subst h; cases he
  | n :: r, j, l, ha, h, e, he => by
    simp only [obsOf] at h
    split at h
    · rename_i o ho
      cases hr : obsOf σ r (j + 1) with
      | none => rw [hr] at h; cases h
      | some l' =>
        rw [hr] at h
        cases h
        intro e' he'
        rcases List.mem_cons.1 he with rfl | he <;> rcases List.mem_cons.1 he' with rfl | he'
        · intro h; exact absurd rfl h
        · intro _ heq
          exact notIn_spec ha.1 ((show n = e'.1 from heq) ▸ (obsOf_get hr e' he').2.1)
        · intro _ heq
          exact notIn_spec ha.1 ((show e.1 = n from heq) ▸ (obsOf_get hr e he).2.1)
        · exact obsOf_ne ha.2 hr e he e' he'
    · cases h

theorem ends_own {E : Ctx} {st : St} {fn : Func} {g d : Nat} {r : D} {σ' : Sto} {l : List ResultVar} (ns : List Nm) (hl : fn.results = l.toArray)
    (h : SomeP (resD E.P st l) fun ds => SomeP (obsOf st.σ ns 1) fun ren => apart ns ∧ σ' = newSto g d ren ∧ Co ((resV ds).sub (·.sub (renD g d ren))) r) : retQ E fn g d r σ' .ret st := by
  obtain ⟨ds, h1, h⟩ := h.elim
  obtain ⟨ren, h2, h3, rfl, h5⟩ := h.elim
  exact ends_new hl h1 ren (fun e he => ⟨(obsOf_get h2 e he).1, (obsOf_get h2 e he).2.2.2⟩) (obsOf_ne h3 h2) h5

theorem Co.of_eq {d d' : D} (h : d = d') : Co d d' := h ▸ Co.refl d

theorem wrapB (x : Int) (h1 : 0 ≤ x) (h2 : x < 256) : IntKind.u8.wrap x = x := by
  simp only [IntKind.wrap, IntKind.bits, IntKind.signed, Bool.false_and, Bool.false_eq_true, if_false]
  have e : (2 : Int) ^ 8 = 256 := by decide
  rw [e]
  omega

theorem takeM {α : Type} (f : α → D) {l : List α} {k : Nat} (h : k < l.length) : (l.take k).map f ++ [f l[k]] = (l.take (k + 1)).map f := by
  rw [List.take_add_one, List.getElem?_eq_getElem h, List.map_append]; rfl

theorem sub_encTy (f : D → D) (t : Ty) : (encTy t).sub f = .agg [f (.val (.string t.name)), f (.sl false (t.args.map encTy)), f (.val (.int .i64 t.pos))] := by rw [encTy_agg]; rfl

attribute [go_sem] undef Int.toNat_natCast Int.natCast_nonneg obsOf notIn apart not_false_eq_true List.size_toArray boxOf rowsOf cellsOf arrOf okRows_iff okRows_nil' sub_encTy List.map_append List.length_append List.take_length

end Go.Ab
