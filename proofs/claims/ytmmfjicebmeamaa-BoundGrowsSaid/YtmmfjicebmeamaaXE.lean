/- A part of the proof, under no conditions of its own: XE. -/
import Derived.Test.YtmmfjicebmeamaaXD
import Derived.Lib.LaidTab
import Derived.Sort.Grow
import Derived.Shelf.Spec.SlicesGrow
import Derived.Deep.Draws
import Derived.ProofKit
import Derived.LaidMore
import Derived.OpenShut
import Derived.Carry
import Derived.Stop.Joined
namespace Go.Ab
open Go Go.RowKit
section
variable {E : Ctx} {N : Nat} {st : St} {K : St → Prop} {Q : Exit → St → Prop}
theorem awp_t {c : Operand} {x y : Code} (hc : ev E st.env c = .val (.bool true)) (h : AWp E N x Q st) : AWp E N (.cond c x y) Q st := awp_cond hc (by simpa using h)
theorem awp_f {c : Operand} {x y : Code} (hc : ev E st.env c = .val (.bool false)) (h : AWp E N y Q st) : AWp E N (.cond c x y) Q st := awp_cond hc (by simpa using h)

def fmapD (n : Nm) (ks : KS) (es : List (Value × D)) : D → D
  | .mref m => if m = n then .fmap ks es else .mref m
  | d => d

/-- A map goes still. -/
theorem sees_fmap {K : St → Prop} (n : Nm) {ks : KS} {es : List (Value × D)} (hn : get st.σ n = some (.map ks es))
    (h : K { env := mapEnv (fmapD n ks es) st.env, σ := mapSto (fmapD n ks es) (del st.σ n) }) : Sees E st K := by
  refine sees_still hn (fmapD n ks es) (fun w0 G w v hw hv hov G' h1 h2 h3 x d hx => ?_) h
  have keep : V G' w x d := hx.mono h1 (fun _ _ => rfl) (fun m u hm => by rw [h3]; exact hm)
  cases hx with
  | mref hρ =>
    rename_i m r
    simp only [fmapD]
    split
    · rename_i he
      subst he
      rw [hρ] at hv
      cases hv
      obtain ⟨r', ms, clock, hc, hh, k1, k2, k3, k4⟩ := hov
      cases hc
      exact .fmap ms clock (h2 _ rfl) hh k1 k2 k3 fun i m e hm he => (k4 i m e hm he).mono h1 (fun _ _ => rfl) (fun m u hm => by rw [h3]; exact hm)
    · exact keep
  | _ => exact keep

/-- No name of this generation stands for an object. -/
def Fresh (σ : Sto) (g : Nat) : Prop := ∀ i j, get σ ⟨g, i, j⟩ = none

theorem fresh_g {σ : Sto} {g a : Nat} (hg : ∀ i j, get σ ⟨g, i, j⟩ = none) (i j : Nat) (h : get σ ⟨a, i, j⟩ ≠ none) : g ≠ a := fun e => h (e ▸ hg i j)

/-- The rows of an array object. -/
def arrOf (el : TypeId) (k : Nat) : Ob → Option (List D)
  | .arr t k' rows => if t = el ∧ k' = k then some rows else none
  | _ => none

theorem okRows_iff (k : Nat) (r : D) (l : List D) : okRows k (r :: l) ↔ (r.cells.length = k ∧ r.cells.all D.one = true) ∧ okRows k l :=
  ⟨fun h => ⟨h r List.mem_cons_self, fun x hx => h x (List.mem_cons_of_mem _ hx)⟩, fun h => okRows_cons h.1 h.2⟩
theorem okRows_nil' (k : Nat) : okRows k [] ↔ True := ⟨fun _ => trivial, fun _ => okRows_nil k⟩

variable {ops : List Oper} {ds : List (Option Tmp)} {g : Nat}

theorem aops_app {o : Oper} {r : List Oper} {t el : TypeId} {so x : Operand} {d : Nat} (hds : ops.map (·.dst) = ds) (hw : wantL ds st.env o.guard = some true) (hop : o.op = .call { callee := .builtin .append, args := #[so, x], argTypes := #[t, t] }) (hd : o.dst = some d)
    {n : Nm} {len : Nat} (hs : ev E st.env so = .own n len) {xf : Bool} {rows2 : List D} (hx : ev E st.env x = .sl xf rows2) {k : Nat}
    (he : elemS E.P t = some el) (hk : szOf E.P el = some k) {bs : Nat} (hbs : bytesOf E.P el = some bs) {z : Value} (hz : zeroOf E.P el = some z) (hzs : z.cells.size = k) (hk0 : 0 < k)
    (h : SomeP (get st.σ n) fun ob => SomeP (arrOf el k ob) fun rows => okRows k rows2 ∧ (rows.length + rows2.length ≤ 9223372036854775807 ∧ (rows.length + rows2.length) * bs ≤ 140737488355328) ∧
      AOps E N ops g K r { env := (d, .own ⟨g, d, 0⟩ (rows.length + rows2.length)) :: st.env, σ := (⟨g, d, 0⟩, .arr el k (rows ++ rows2)) :: del st.σ n }) : AOps E N ops g K (o :: r) st := by
  obtain ⟨ob, h1, h⟩ := h.elim
  obtain ⟨rows, h2, h3, h4, h5⟩ := h.elim
  cases ob with
  | arr t' k' rows' =>
    simp only [arrOf] at h2
    split at h2
    · rename_i hc
      obtain ⟨rfl, rfl⟩ := hc
      cases h2
      exact aops_append hds hw hop hd hs h1 hx he hk hbs hz hzs hk0 h3 h4.1 h4.2 h5
    · cases h2
  | _ => cases h2
end

def rowsOf : Ob → Option (List D)
  | .arr _ _ rows => some rows
  | _ => none
def boxOf : Ob → Option (TypeId × List D)
  | .box t cs => some (t, cs)
  | _ => none
def mapObOf : Ob → Option (KS × List (Value × D))
  | .map ks es => some (ks, es)
  | _ => none
def cellsOf : Ob → Option (List D)
  | .box _ cs => some cs
  | _ => none

section
variable {E : Ctx} {N : Nat} {st : St} {Q : Exit → St → Prop}
theorem sees_frz {K : St → Prop} (n : Nm) (h : SomeP (get st.σ n) fun ob => SomeP (rowsOf ob) fun rows => K { env := mapEnv (frzD n rows) st.env, σ := mapSto (frzD n rows) (del st.σ n) }) : Sees E st K := by
  obtain ⟨ob, h1, h⟩ := h.elim
  obtain ⟨rows, h2, h⟩ := h.elim
  cases ob with
  | arr t k rows' => cases h2; exact sees_freeze n h1 h
  | _ => cases h2
theorem sees_still_box {K : St → Prop} (n : Nm) (h : SomeP (get st.σ n) fun ob => SomeP (cellsOf ob) fun cs => K { env := mapEnv (boxD n cs) st.env, σ := mapSto (boxD n cs) (del st.σ n) }) : Sees E st K := by
  obtain ⟨ob, h1, h⟩ := h.elim
  obtain ⟨rows, h2, h⟩ := h.elim
  cases ob with
  | box t cs => cases h2; exact sees_box n h1 h
  | _ => cases h2
theorem awp_frz {c : Code} (n : Nm) (h : SomeP (get st.σ n) fun ob => SomeP (rowsOf ob) fun rows => AWp E N c Q { env := mapEnv (frzD n rows) st.env, σ := mapSto (frzD n rows) (del st.σ n) }) : AWp E N c Q st := Sees.awp (sees_frz n h)
theorem awp_still {c : Code} (n : Nm) (h : SomeP (get st.σ n) fun ob => SomeP (cellsOf ob) fun cs => AWp E N c Q { env := mapEnv (boxD n cs) st.env, σ := mapSto (boxD n cs) (del st.σ n) }) : AWp E N c Q st := Sees.awp (sees_still_box n h)
theorem sees_map {K : St → Prop} (n : Nm) (h : SomeP (get st.σ n) fun ob => SomeP (mapObOf ob) fun m => K { env := mapEnv (fmapD n m.1 m.2) st.env, σ := mapSto (fmapD n m.1 m.2) (del st.σ n) }) : Sees E st K := by
  obtain ⟨ob, h1, h⟩ := h.elim
  obtain ⟨m, h2, h⟩ := h.elim
  cases ob with
  | map ks es => cases h2; exact sees_fmap n h1 h
  | _ => cases h2
theorem awp_fmap {c : Code} (n : Nm) (h : SomeP (get st.σ n) fun ob => SomeP (mapObOf ob) fun m => AWp E N c Q { env := mapEnv (fmapD n m.1 m.2) st.env, σ := mapSto (fmapD n m.1 m.2) (del st.σ n) }) : AWp E N c Q st := Sees.awp (sees_map n h)
theorem ret_fmap {fn : Func} {g d : Nat} {r : D} {σ' : Sto} (n : Nm) (h : SomeP (get st.σ n) fun ob => SomeP (mapObOf ob) fun m => retQ E fn g d r σ' .ret { env := mapEnv (fmapD n m.1 m.2) st.env, σ := mapSto (fmapD n m.1 m.2) (del st.σ n) }) : retQ E fn g d r σ' .ret st := Ends.sees (sees_map n h)
theorem ret_still {fn : Func} {g d : Nat} {r : D} {σ' : Sto} (n : Nm) (h : SomeP (get st.σ n) fun ob => SomeP (cellsOf ob) fun cs => retQ E fn g d r σ' .ret { env := mapEnv (boxD n cs) st.env, σ := mapSto (boxD n cs) (del st.σ n) }) : retQ E fn g d r σ' .ret st := Ends.sees (sees_still_box n h)
theorem awp_nil {c : Code} (t : Nat) (ty : TypeId) (k : Nat) (ht : lk st.env t = some (.val (.slice none 0 0))) (h : ∀ g, (∀ i j, get st.σ ⟨g, i, j⟩ = none) → AWp E N c Q { env := (t, .own ⟨g, 0, 0⟩ 0) :: st.env, σ := (⟨g, 0, 0⟩, .arr ty k []) :: st.σ }) : AWp E N c Q st := Sees.awp (sees_nil t ty k ht h)
theorem awp_nil_box {c : Code} (m : Nm) (i : Nat) (ty : TypeId) (k : Nat)
    (h : SomeP (get st.σ m) fun ob => SomeP (boxOf ob) fun b => b.2[i]? = some (.val (.slice none 0 0)) ∧ ∀ g, Fresh st.σ g → AWp E N c Q { env := st.env, σ := (⟨g, 0, 0⟩, .arr ty k []) :: set st.σ m (.box b.1 (b.2.set i (.own ⟨g, 0, 0⟩ 0))) }) : AWp E N c Q st := by
  obtain ⟨ob, h1, h⟩ := h.elim
  obtain ⟨b, h2, h3, h⟩ := h.elim
  cases ob with
  | box t cs => cases h2; exact Sees.awp (sees_nil_box m i ty k h1 h3 h)
  | _ => cases h2
theorem ret_frz {fn : Func} {g d : Nat} {r : D} {σ' : Sto} (n : Nm) (h : SomeP (get st.σ n) fun ob => SomeP (rowsOf ob) fun rows => retQ E fn g d r σ' .ret { env := mapEnv (frzD n rows) st.env, σ := mapSto (frzD n rows) (del st.σ n) }) : retQ E fn g d r σ' .ret st := Ends.sees (sees_frz n h)
end

theorem ends_ev {E : Ctx} {st : St} {fn : Func} {g d : Nat} {r : D} {l : List ResultVar} (hl : fn.results = l.toArray) (h : SomeP (resD E.P st l) fun ds => Co (resV ds) r) : retQ E fn g d r [] .ret st := by
  obtain ⟨ds, h1, h2⟩ := h.elim
  exact ends_plain hl h1 h2 fun p hp => nomatch hp

/-! Ends that hand new objects back, evaluated. -/
def obsOf (σ : Sto) : List Nm → Nat → Option (List (Nm × Nat × Ob))
  | [], _ => some []
  | n :: r, j => match get σ n with
    | some o => (obsOf σ r (j + 1)).map fun l => (n, j, o) :: l
    | none => none
def notIn (n : Nm) : List Nm → Prop
  | [] => True
  | m :: r => ¬ n = m ∧ notIn n r
def apart : List Nm → Prop
  | [] => True
  | n :: r => notIn n r ∧ apart r

theorem obsOf_get {σ : Sto} : ∀ {ns : List Nm} {j : Nat} {l : List (Nm × Nat × Ob)}, obsOf σ ns j = some l → ∀ e ∈ l, get σ e.1 = some e.2.2 ∧ e.1 ∈ ns ∧ j ≤ e.2.1 ∧ look l e.2.1 = some (e.1, e.2.2)
  | [], j, l, h, e, he => by simp only [obsOf, Option.some.injEq] at h; subst h; cases he
  | n :: r, j, l, h, e, he => by
    simp only [obsOf] at h
    split at h
    · rename_i o ho
      cases hr : obsOf σ r (j + 1) with
      | none => rw [hr] at h; cases h
      | some l' =>
        rw [hr] at h
        cases h
        rcases List.mem_cons.1 he with rfl | he'
        · exact ⟨ho, List.mem_cons_self, Nat.le_refl _, by simp [look]⟩
        · obtain ⟨h1, h2, h3, h4⟩ := obsOf_get hr e he'
          exact ⟨h1, List.mem_cons_of_mem _ h2, by omega, by simp only [look]; rw [if_neg (by omega)]; exact h4⟩
    · cases h

theorem notIn_spec {n : Nm} : ∀ {l : List Nm}, notIn n l → n ∉ l
  | [], _ => by simp
  | m :: r, h => by simp only [List.mem_cons, not_or]; exact ⟨h.1, notIn_spec h.2⟩

theorem obsOf_ne {σ : Sto} : ∀ {ns : List Nm} {j : Nat} {l : List (Nm × Nat × Ob)}, apart ns → obsOf σ ns j = some l → ∀ e ∈ l, ∀ e' ∈ l, e.2.1 ≠ e'.2.1 → e.1 ≠ e'.1
  | [], j, l, _, h, e, he => by simp only [obsOf, Option.some.injEq] at h; subst h; cases he
  | n :: r, j, l, ha, h, e, he => by
    simp only [obsOf] at h
    split at h
    · rename_i o ho
      cases hr : obsOf σ r (j + 1) with
      | none => rw [hr] at h; cases h
      | some l' =>
        rw [hr] at h
        cases h
        intro e' he'
        rcases List.mem_cons.1 he with rfl | he <;> rcases List.mem_cons.1 he' with rfl | he'
        · intro h; exact absurd rfl h
        · intro _ heq
          exact notIn_spec ha.1 ((show n = e'.1 from heq) ▸ (obsOf_get hr e' he').2.1)
        · intro _ heq
          exact notIn_spec ha.1 ((show e.1 = n from heq) ▸ (obsOf_get hr e he).2.1)
        · exact obsOf_ne ha.2 hr e he e' he'
    · cases h

theorem ends_own {E : Ctx} {st : St} {fn : Func} {g d : Nat} {r : D} {σ' : Sto} {l : List ResultVar} (ns : List Nm) (hl : fn.results = l.toArray)
    (h : SomeP (resD E.P st l) fun ds => SomeP (obsOf st.σ ns 1) fun ren => apart ns ∧ σ' = newSto g d ren ∧ Co ((resV ds).sub (·.sub (renD g d ren))) r) : retQ E fn g d r σ' .ret st := by
  obtain ⟨ds, h1, h⟩ := h.elim
  obtain ⟨ren, h2, h3, rfl, h5⟩ := h.elim
  exact ends_new hl h1 ren (fun e he => ⟨(obsOf_get h2 e he).1, (obsOf_get h2 e he).2.2.2⟩) (obsOf_ne h3 h2) h5

theorem Co.of_eq {d d' : D} (h : d = d') : Co d d' := h ▸ Co.refl d

theorem wrapB (x : Int) (h1 : 0 ≤ x) (h2 : x < 256) : IntKind.u8.wrap x = x := by
  simp only [IntKind.wrap, IntKind.bits, IntKind.signed, Bool.false_and, Bool.false_eq_true, if_false]
  have e : (2 : Int) ^ 8 = 256 := by decide
  rw [e]
  omega

theorem takeM {α : Type} (f : α → D) {l : List α} {k : Nat} (h : k < l.length) : (l.take k).map f ++ [f l[k]] = (l.take (k + 1)).map f := by
  rw [List.take_add_one, List.getElem?_eq_getElem h, List.map_append]; rfl

theorem sub_encTy (f : D → D) (t : Ty) : (encTy t).sub f = .agg [f (.val (.string t.name)), f (.sl false (t.args.map encTy)), f (.val (.int .i64 t.pos))] := by rw [encTy_agg]; rfl

attribute [go_sem] mapObOf fmapD undef Int.toNat_natCast Int.natCast_nonneg obsOf notIn apart not_false_eq_true List.size_toArray boxOf rowsOf cellsOf arrOf okRows_iff okRows_nil' sub_encTy List.map_append List.length_append List.take_length

end Go.Ab

namespace Go.Ab
open Go Go.RowKit

theorem Vs.toVals {G : Gh} {w : World} {vs : Array Value} {l : List Value} (h : Vs G w vs (l.map .val)) : vs = l.toArray := by
  apply Array.ext_getElem?
  intro i
  obtain ⟨h1, h2⟩ := h
  simp only [List.length_map] at h1
  simp only [List.getElem?_toArray]
  by_cases hi : i < l.length
  · have hv : vs[i]? = some vs[i] := by simp [h1, hi]
    rw [hv, List.getElem?_eq_getElem hi]
    have := h2 i vs[i] (.val l[i]) hv (by simp [hi])
    rw [V.of_val this]
  · rw [List.getElem?_eq_none (by omega), Array.getElem?_eq_none (by omega)]

theorem acalls_grown {E : Ctx} {f : FuncId} {l : List Value} {v : Value} {g d : Nat} (hcall : ∀ xs w, (callFunc f xs).run E.P w = .ok (.enter f xs) w)
    (h : ∀ w0, E.A w0 → ∀ w, Below w0.heap.size w0 w → Calls E.P f l.toArray w fun e w' => e = .returned v ∧ ∃ k os, w' = Sort.grow (w.drewN k) os) : ACalls E f (l.map .val) [] g d (.val v) [] where
  call := hcall
  run w0 hA G w vs hw hvs ho hfr := by
    rw [Vs.toVals hvs]
    refine (h w0 hA w hw.below).mono ?_
    rintro e w' ⟨rfl, k, os, rfl⟩
    have hheap : (Sort.grow (w.drewN k) os).heap = w.heap ++ os := rfl
    have hsz : w.heap.size ≤ (Sort.grow (w.drewN k) os).heap.size := by rw [hheap, Array.size_append]; omega
    have hb : ∀ b, b < w.heap.size → (Sort.grow (w.drewN k) os).heap[b]? = w.heap[b]? := fun b hb => by rw [hheap, Array.getElem?_append_left hb]
    refine ⟨v, G, rfl, ⟨⟨?_, ?_, ?_, ?_, ?_⟩, hw.old, fun b hb => Nat.lt_of_lt_of_le (hw.lt b hb) hsz, fun n v hn => ⟨(hw.nm n v hn).1, fun b hb => ⟨((hw.nm n v hn).2 b hb).1, Nat.lt_of_lt_of_le ((hw.nm n v hn).2 b hb).2 hsz⟩⟩⟩, .val v, ⟨fun n o hn => by simp [get] at hn, fun n m o o' v v' b hn => by simp [get] at hn⟩,
      ⟨hsz, fun b hb' _ => hb b hb', fun _ h => h, fun _ h => .inl h, fun _ _ h => h, fun _ _ h _ => h, Nat.le_refl _, fun _ h => .inr h, fun _ h => .inl h, rfl⟩⟩
    · exact hw.below.os
    · exact hw.below.tape
    · exact hw.below.output
    · exact Nat.le_trans hw.below.size hsz
    · exact fun b hb' => (hb b (Nat.lt_of_lt_of_le hb' hw.below.size)).trans (hw.below.block b hb')

theorem tab_keeps {P : Program} {w0 w : World} {n : String} {k : IntKind} {zs : List Int} (h : Lib.TabIs P w0 n k zs) (hb : Below w0.heap.size w0 w) : Lib.TabIs P w n k zs := by
  unfold Lib.TabIs World.var? at h ⊢
  cases hg : P.globalNamed n with
  | none => simp [hg] at h
  | some g =>
    simp only [hg, Option.bind_some] at h ⊢
    have hlt : g < w0.heap.size := by
      rcases Nat.lt_or_ge g w0.heap.size with h' | h'
      · exact h'
      · simp [Array.getElem?_eq_none h'] at h
    rw [hb.block g hlt]
    exact h


/-- Rows that denote no more. -/
theorem Co.sl {x x' : Bool} {rows rows' : List D} (hx : x' = true → x = true) (hl : rows.length = rows'.length) (h : ∀ (i : Nat) r r', rows[i]? = some r → rows'[i]? = some r' → CoL r.cells r'.cells) : Co (.sl x rows) (.sl x' rows') := by
  intro G w v hv
  cases hv with
  | nilsl =>
    have : rows' = [] := List.eq_nil_of_length_eq_zero hl.symm
    subst this
    exact .nilsl _
  | esl a =>
    have : rows' = [] := List.eq_nil_of_length_eq_zero hl.symm
    subst this
    exact .esl a _
  | sl X h1 h2 h3 h4 h5 h6 h7 =>
    have get : ∀ (i : Nat) r', rows'[i]? = some r' → ∃ r, rows[i]? = some r ∧ CoL r.cells r'.cells := fun i r' hr => by
      have hi : i < rows.length := by rw [hl]; exact (List.getElem?_eq_some_iff.1 hr).1
      exact ⟨rows[i], by simp [hi], h i _ _ (by simp [hi]) hr⟩
    rename_i b off n cap k
    refine .sl (k := k) X (h1.trans hl) (fun e => h2 (hx e)) h3 h4 (fun i r' hr => ?_) (fun i r' j d' hr hd => ?_) (fun i r' j d' hr hd => ?_)
    · obtain ⟨r, hr1, hc⟩ := get i r' hr
      rw [← hc.spec.1]; exact h5 i r hr1
    · obtain ⟨r, hr1, hc⟩ := get i r' hr
      obtain ⟨d, hd1, _⟩ := hc.spec.2 j d' hd
      exact h6 i r j d hr1 hd1
    · obtain ⟨r, hr1, hc⟩ := get i r' hr
      obtain ⟨d, hd1, hco⟩ := hc.spec.2 j d' hd
      exact hco _ _ _ (h7 i r j d hr1 hd1)

theorem Co.map {α : Type} {x x' : Bool} {f f' : α → D} (l : List α) (hx : x' = true → x = true) (h : ∀ a ∈ l, CoL (f a).cells (f' a).cells) : Co (.sl x (l.map f)) (.sl x' (l.map f')) := by
  refine Co.sl hx (by simp) fun i r r' hr hr' => ?_
  rw [List.getElem?_map] at hr hr'
  cases hl : l[i]? with
  | none => rw [hl] at hr; cases hr
  | some a =>
    rw [hl] at hr hr'
    cases hr; cases hr'
    exact h a (List.mem_of_getElem? hl)

section
variable {E : Ctx} {N : Nat} {st : St} {Q : Exit → St → Prop}
/-- A variable is seen more loosely. -/
theorem awp_co {c : Code} (t : Nat) (d' : D) (h : SomeP (lk st.env t) fun d => Co d d' ∧ AWp E N c Q { env := (t, d') :: st.env, σ := st.σ }) : AWp E N c Q st := by
  obtain ⟨d, h1, h2, h3⟩ := h.elim
  refine Sees.awp fun w0 _ G w a hr => ⟨G, ⟨(t, d') :: st.env, st.σ⟩, ⟨hr.wf, fun u x hu => ?_, hr.objs, hr.defers⟩, .refl _ _ _ _, h3⟩
  simp only [lk] at hu
  split at hu
  · rename_i e
    subst e
    cases hu
    exact ⟨(hr.env _ _ h1).1, h2 _ _ _ (hr.env _ _ h1).2⟩
  · exact hr.env u x hu
end

theorem set_mapIdx {α β : Type} (F : Nat → Nat → α → β) (l : List α) (k : Nat) (v : β) (hv : ∀ a, l[k]? = some a → v = F (k + 1) k a) (hF : ∀ i a, i ≠ k → F k i a = F (k + 1) i a) :
    (l.mapIdx (F k)).set k v = l.mapIdx (F (k + 1)) := by
  apply List.ext_getElem?
  intro i
  rw [List.getElem?_set]
  simp only [List.length_mapIdx, List.getElem?_mapIdx]
  split
  · rename_i e
    subst e
    split
    · rename_i hlt
      simp [hlt, hv l[k] (by simp [hlt])]
    · rename_i hlt
      simp [List.getElem?_eq_none (show l.length ≤ k by omega)]
  · rename_i e
    cases hl : l[i]? with
    | none => rfl
    | some a => simp [hF i a (Ne.symm e)]

theorem getMI {α β : Type} (f : Nat → α → β) (l : List α) (k : Nat) (h : k < l.length) : (l.mapIdx f)[k]? = some (f k l[k]) := by simp [h]

attribute [go_sem] List.length_mapIdx


/-- What a call hands back may be seen otherwise. -/
theorem ACalls.sees {E : Ctx} {f : FuncId} {args : List D} {σ σ' σ2 : Sto} {g d : Nat} {r r2 : D} (h : ACalls E f args σ g d r σ') (hs : Sees E ⟨[(0, r)], σ'⟩ fun st => lk st.env 0 = some r2 ∧ ∀ p ∈ σ2, get st.σ p.1 = some p.2) : ACalls E f args σ g d r2 σ2 where
  call := h.call
  run w0 hA G w vs hw hvs ho hfr := by
    refine (h.run w0 hA G w vs hw hvs ho hfr).mono ?_
    rintro e w' ⟨v, G', rfl, k1, k2, k3, k4⟩
    have up : ∀ {H : Gh} {x : Value} {y : D} (b : Nat), V H w' x y → V { H with base := b } w' x y := fun b h => h.mono (fun _ h => h) (fun _ _ => rfl) (fun _ _ h => h)
    have henv : ∀ t x, lk [(0, r)] t = some x → t < (#[v] : Array Value).size ∧ V { G' with base := 0 } w' ((#[v] : Array Value).getD t undef) x := by
      intro t x hx
      simp only [lk] at hx
      split at hx
      · rename_i e
        subst e
        cases hx
        exact ⟨by simp, by simpa using up 0 k2⟩
      · cases hx
    have k1' : WF w0 { G' with base := 0 } w' := ⟨k1.below, k1.old, k1.lt, k1.nm⟩
    have k3' : Objs w0 { G' with base := 0 } w' (get σ') := ⟨fun n o hn => let ⟨u, h1, h2, h3⟩ := k3.ob n o hn; ⟨u, h1, h2.mono (fun _ _ h => up 0 h) fun _ _ => rfl, h3⟩, k3.ne⟩
    obtain ⟨G2, st2, hr2, hst2, hl, hsub⟩ := hs w0 hA { G' with base := 0 } w' { tmps := #[v], defers := [] } ⟨k1', henv, k3', .nil (Nat.zero_le _)⟩
    have hsub' : ∀ n o, get σ2 n = some o → get st2.σ n = some o := fun n o hn => hsub _ (mem_of_get hn)
    have v2 : V { G2 with base := G'.base } w' v r2 := up G'.base (by simpa using (hr2.env 0 r2 hl).2)
    have o2 := hr2.objs.sub hsub'
    have s2 : Step no G' w' (get σ') { G2 with base := G'.base } w' (get st2.σ) := ⟨hst2.size, hst2.heap, hst2.F, hst2.F', hst2.ρ, hst2.ρ', hst2.top, hst2.blk', hst2.dom, rfl⟩
    refine ⟨v, { G2 with base := G'.base }, rfl, ⟨hr2.wf.below, hr2.wf.old, hr2.wf.lt, hr2.wf.nm⟩, v2, ⟨fun n o hn => let ⟨u, h1, h2, h3⟩ := o2.ob n o hn; ⟨u, h1, h2.mono (fun _ _ h => up _ h) fun _ _ => rfl, h3⟩, o2.ne⟩, (k4.trans (s2.weaken fun _ _ h => h.elim)).trans (Step.drop hsub')⟩

theorem sees_done {E : Ctx} {st : St} {K : St → Prop} (h : K st) : Sees E st K := Sees.of h

theorem Co.tup {cs cs' : List D} (h : CoL cs cs') : Co (.tup cs) (.tup cs') := fun G w v hv => by
  cases hv with
  | tup h1 h2 =>
    refine .tup (h1.trans h.spec.1) fun i c d hc hd => ?_
    obtain ⟨d0, hd0, hco⟩ := h.spec.2 i d hd
    exact hco _ _ _ (h2 i c d0 hc hd0)

/-- A call that hands back a new row without an element. -/
theorem acalls_row {E : Ctx} {f : FuncId} {l : List Value} {t : TypeId} {k g d : Nat} (hcall : ∀ xs w, (callFunc f xs).run E.P w = .ok (.enter f xs) w)
    (h : ∀ w0, E.A w0 → ∀ w, Below w0.heap.size w0 w → Calls E.P f l.toArray w fun e w' => ∃ v, e = .returned v ∧ w.grownBy w' none ∧
      (v = .slice none 0 0 ∨ ∃ cap cur, v = .slice (some ⟨w.heap.size, 0, none⟩) 0 cap ∧ w'.heap[w.heap.size]? = some (.cells cur t (0, 0)) ∧ cap ≤ maxLen ∧ cur.size = cap * k)) :
    ACalls E f (l.map .val) [] g d (.own ⟨g, d, 1⟩ 0) [(⟨g, d, 1⟩, .arr t k [])] where
  call := hcall
  run w0 hA G w vs hw hvs ho hfr := by
    rw [Vs.toVals hvs]
    refine (h w0 hA w hw.below).mono ?_
    rintro e w' ⟨v, rfl, hgr, hv⟩
    have hob : OV w0 (G.upd ⟨g, d, 1⟩ v) w' v (.arr t k []) := by
      refine ⟨[], ⟨by simp, ?_⟩, fun i r h => by simp at h⟩
      rcases hv with rfl | ⟨cap, cur, rfl, h1, h2, h3⟩
      · exact .inl ⟨rfl, rfl⟩
      · exact .inr ⟨_, cap, cur, rfl, hw.below.size, h1, Nat.zero_le _, h2, h3, by simp⟩
    have hblk : ∀ b, blk v = some b → w.heap.size ≤ b ∧ b < w'.heap.size := by
      intro b hb
      rcases hv with rfl | ⟨cap, cur, rfl, h1, h2, h3⟩
      · simp [blk] at hb
      · simp only [blk, Option.some.injEq] at hb
        subst hb
        exact ⟨Nat.le_refl _, (Array.getElem?_eq_some_iff.1 h1).1⟩
    obtain ⟨q1, q2, q3⟩ := new_obj hw ho (hfr.2 1) hfr.1 hgr hblk hob
    have he : Kp.or (single ⟨g, d, 1⟩ (.arr t k [])) (get []) = get [(⟨g, d, 1⟩, .arr t k [])] := by rw [← get_single, ← get_append]; rfl
    rw [he] at q2 q3
    refine ⟨v, _, rfl, q1, ?_, q2, q3.weaken fun n _ hn => by subst hn; exact ⟨rfl, rfl⟩⟩
    have hρ : (G.upd ⟨g, d, 1⟩ v).ρ ⟨g, d, 1⟩ = some v := by simp [Gh.upd]
    rcases hv with rfl | ⟨cap, cur, rfl, h1, h2, h3⟩
    · exact .own hρ
    · exact .own hρ

theorem Co.one {x : Bool} {r r' : D} (h : CoL r.cells r'.cells) : Co (.sl x [r]) (.sl false [r']) :=
  Co.sl (fun e => by cases e) rfl (fun i a a' ha ha' => by
    cases i with
    | zero => cases ha; cases ha'; exact h
    | succ i => cases ha)

theorem okRows_map {α : Type} (k : Nat) (f : α → D) (l : List α) (h : ∀ a, (f a).cells.length = k ∧ (f a).cells.all D.one = true) : okRows k (l.map f) := fun r hr => by
  obtain ⟨a, _, rfl⟩ := List.mem_map.1 hr
  exact h a

end Go.Ab

namespace Go.Ab
open Go Go.RowKit

/-! # What the arguments denote, off their reading -/

/-- What is known at the start: all that lies there is frozen. -/
def G0 (w : World) : Gh := ⟨fun b => b < w.heap.size, fun _ => none, 1, 0⟩

theorem wf0 (w : World) : WF w (G0 w) w where
  below := Below.refl _ _
  old := fun _ h => h
  lt := fun _ h => h
  nm := fun n v h => by cases h

theorem objs0 (w : World) : Objs w (G0 w) w (get []) where
  ob := fun n o h => by cases h
  ne := fun n m o o' v v' b h => by cases h

/-- The cells from a place on denote these. -/
def Seg (w : World) (cs : List Value) (off : Nat) (ds : List D) : Prop := ∀ (i : Nat) d, ds[i]? = some d → ∃ c, cs[off + i]? = some c ∧ V (G0 w) w c d

theorem Seg.nil (w : World) (cs : List Value) (off : Nat) : Seg w cs off [] := fun i d h => by simp at h
theorem Seg.app {w : World} {cs : List Value} {off m : Nat} {ds ds' : List D} (h : Seg w cs off ds) (h' : Seg w cs m ds') (hm : m = off + ds.length) : Seg w cs off (ds ++ ds') := fun i d hd => by
  subst hm
  by_cases hi : i < ds.length
  · rw [List.getElem?_append_left hi] at hd
    exact h i d hd
  · rw [List.getElem?_append_right (by omega)] at hd
    obtain ⟨c, hc, hv⟩ := h' _ _ hd
    exact ⟨c, by rw [← hc]; congr 1; omega, hv⟩

variable {H : Type} {enc : TypeId × Value → H} {P : Program} {w : World}

/-- What reads as this type denotes one of these. -/
def Opens {α : Type} (enc : TypeId × Value → H) (P : Program) (w : World) (t : TypeId) (c : α → List D) (ok : α → Prop) (n : Nat) : Prop :=
  ∀ cs x, DataW.trod enc P w 0 (fun _ => true) true n t cs = some x → ∃ a, ok a ∧ cs.length = (c a).length ∧ Seg w cs 0 (c a)

theorem one_seg {v : Value} {d : D} (h : V (G0 w) w v d) : Seg w [v] 0 [d] := fun i d' hd => by
  cases i with
  | zero => cases hd; exact ⟨v, rfl, h⟩
  | succ i => simp at hd

theorem opens_str {t : TypeId} (ht : P.underlying t = some .string) (n : Nat) : Opens enc P w t (fun s : Str => [.val (.string s)]) (fun s => s.size ≤ 9223372036854775807) n := by
  intro cs x h
  obtain ⟨s, rfl, _, hs⟩ := DataW.trod_string ht h
  exact ⟨s, by unfold maxLen at hs; omega, rfl, one_seg (.val _)⟩

theorem opens_int {t : TypeId} (ht : P.underlying t = some (.int .i64)) (n : Nat) : Opens enc P w t (fun i : Int => [.val (.int .i64 i)]) (fun i => -9223372036854775808 ≤ i ∧ i ≤ 9223372036854775807) n := by
  intro cs x h
  obtain ⟨m, rfl, _, hw⟩ := DataW.trod_int ht h
  simp [Lit.wf, IntKind.min, IntKind.max, IntKind.signed, IntKind.bits] at hw
  exact ⟨m, ⟨by omega, by omega⟩, rfl, one_seg (.val _)⟩

theorem opens_bool {t : TypeId} (ht : P.underlying t = some .bool) (n : Nat) : Opens enc P w t (fun b : Bool => [.val (.bool b)]) (fun _ => True) n := by
  intro cs x h
  obtain ⟨b, rfl, _⟩ := DataW.trod_bool ht h
  exact ⟨b, trivial, rfl, one_seg (.val _)⟩

theorem exists_list {α : Type} {p : Nat → α → Prop} : ∀ n : Nat, (∀ i, i < n → ∃ a, p i a) → ∃ l : List α, l.length = n ∧ ∀ i (a : α), l[i]? = some a → p i a
  | 0, _ => ⟨[], rfl, fun i a h => by simp at h⟩
  | n + 1, h => by
    obtain ⟨l, hl, hp⟩ := exists_list n fun i hi => h i (by omega)
    obtain ⟨a, ha⟩ := h n (by omega)
    refine ⟨l ++ [a], by simp [hl], fun i b hb => ?_⟩
    by_cases hi : i < l.length
    · rw [List.getElem?_append_left hi] at hb
      exact hp i b hb
    · rw [List.getElem?_append_right (by omega)] at hb
      have : i - l.length = 0 := by
        have := (List.getElem?_eq_some_iff.1 hb).1
        simp at this
        omega
      rw [this] at hb
      cases hb
      have : i = n := by omega
      subst this
      exact ha

theorem cells?_some {base : Nat} {a : Addr} {n : Nat} {l : List Value} (h : w.cells? base a n = some l) : l.length = n ∧ ∀ j, j < n → w.cell? (a.add j) = l[j]? := by
  unfold World.cells? at h
  split at h
  · refine ⟨by simpa using Lib.mapM_length h, fun j hj => ?_⟩
    obtain ⟨b, hb, hf⟩ := Lib.mapM_at h j j (by simp [hj])
    rw [hf, hb]
  · cases h

theorem cell?_spot {a : Addr} {v : Value} (h : w.cell? a = some v) : a.spot = none ∧ a.block < w.heap.size := by
  unfold World.cell? at h
  split at h
  · rename_i c t f hh
    split at h
    · cases h
    · rename_i hs
      exact ⟨by cases he : a.spot with | none => rfl | some _ => rw [he] at hs; simp at hs, (Array.getElem?_eq_some_iff.1 hh).1⟩
  · cases h

theorem opens_sl {α : Type} {t e : TypeId} {k : Nat} {f : α → D} {ok : α → Prop} {n : Nat} (ht : P.underlying t = some (.slice e)) (hk : P.cellsOf e = k) (hk0 : 0 < k) (hlen : ∀ a, (f a).cells.length = k)
    (he : Opens enc P w e (fun a => (f a).cells) ok n) :
    Opens enc P w t (fun l : List α => [.sl false (l.map f)]) (fun l => l.length ≤ 9223372036854775807 ∧ ∀ a ∈ l, ok a) (n + 1) := by
  intro cs x h
  rcases DataW.trod_slice ht h with ⟨rfl, rfl⟩ | ⟨a, len, cap, elems, rest, m, hm, rfl, rfl, _, hlc, hcap, hel, hget, hrest, _⟩
  · exact ⟨[], ⟨by simp, by simp⟩, rfl, one_seg (.nilsl _)⟩
  · obtain rfl : n = m := by omega
    rw [hk] at hget hrest
    have row : ∀ i, i < len → ∃ b, ok b ∧ ∀ (j : Nat) d, (f b).cells[j]? = some d → ∃ c, w.cell? ((a.add (i * k)).add j) = some c ∧ V (G0 w) w c d := by
      intro i hi
      have h1 := hget i hi
      rw [List.getElem?_eq_getElem (by omega)] at h1
      obtain ⟨l, hl, hd⟩ := Option.bind_eq_some_iff.1 h1
      obtain ⟨hl1, hl2⟩ := cells?_some hl
      obtain ⟨b, hb, hlb, hseg⟩ := he l _ hd
      refine ⟨b, hb, fun j d hd => ?_⟩
      obtain ⟨c, hc, hv⟩ := hseg j d hd
      have hj : j < k := by rw [← hlen b]; exact (List.getElem?_eq_some_iff.1 hd).1
      exact ⟨c, by rw [hl2 j hj]; simpa using hc, hv⟩
    obtain ⟨l, hll, hlp⟩ := exists_list len row
    have hok : l.length ≤ 9223372036854775807 ∧ ∀ b ∈ l, ok b := by
      refine ⟨by unfold maxLen at hcap; omega, fun b hb => ?_⟩
      obtain ⟨i, hi, rfl⟩ := List.mem_iff_getElem.1 hb
      exact (hlp i _ (by simp [hi])).1
    refine ⟨l, hok, rfl, one_seg ?_⟩
    by_cases hc0 : cap = 0
    · obtain rfl : len = 0 := by omega
      subst hc0
      have : l = [] := List.eq_nil_of_length_eq_zero hll
      subst this
      exact .esl a false
    · -- the first cell is there
      have first : ∃ v, w.cell? a = some v := by
        have hcells : ∃ q, (w.cells? 0 (a.add (0 * k)) k) = some q := by
          by_cases hl0 : 0 < len
          · have h1 := hget 0 hl0
            rw [List.getElem?_eq_getElem (by omega)] at h1
            obtain ⟨q, hq, _⟩ := Option.bind_eq_some_iff.1 h1
            exact ⟨q, hq⟩
          · obtain ⟨hr1, hr2⟩ := hrest rfl
            have h1 := hr2 0 (by omega)
            rw [List.getElem?_eq_getElem (by omega)] at h1
            obtain ⟨q, hq, _⟩ := Option.bind_eq_some_iff.1 h1
            have : len + 0 = 0 := by omega
            rw [this] at hq
            exact ⟨q, hq⟩
        obtain ⟨q, hq⟩ := hcells
        obtain ⟨hl1, hl2⟩ := cells?_some hq
        have h0 := hl2 0 hk0
        rw [Nat.zero_mul, show (a.add 0).add 0 = a from rfl, List.getElem?_eq_getElem (by omega)] at h0
        exact ⟨_, h0⟩
      obtain ⟨v, hv⟩ := first
      obtain ⟨hs, hb⟩ := cell?_spot hv
      obtain ⟨b, off, spot⟩ := a
      simp only at hs hb
      subst hs
      have hadd : ∀ i j : Nat, ((⟨b, off, none⟩ : Addr).add (i * k)).add j = ⟨b, off + (i * k + j), none⟩ := fun i j => by
        rw [Addr.add_lit, Addr.add_lit, Nat.add_assoc]
      refine .sl (k := k) (fun i j => (w.cell? ⟨b, off + (i * k + j), none⟩).getD .nilFunc) (by simp [hll]) (fun h => by cases h) hlc hb (fun i r hr => ?_) (fun i r j d hr hd => ?_) (fun i r j d hr hd => ?_)
      · obtain ⟨y, _, rfl⟩ := Option.map_eq_some_iff.1 (by simpa using hr)
        exact hlen y
      · obtain ⟨y, hy, rfl⟩ := Option.map_eq_some_iff.1 (by simpa using hr)
        obtain ⟨c, hc, _⟩ := (hlp i y hy).2 j d hd
        rw [hadd] at hc
        simp [hc]
      · obtain ⟨y, hy, rfl⟩ := Option.map_eq_some_iff.1 (by simpa using hr)
        obtain ⟨c, hc, hV⟩ := (hlp i y hy).2 j d hd
        rw [hadd] at hc
        simpa [hc] using hV

/-- A field of a struct. -/
theorem open_field {α : Type} {t : TypeId} {fs : Array Field} {cs : List Value} {n : Nat} {x : DataW H × List MemPlace} (ht : P.underlying t = some (.struct fs)) (h : DataW.trod enc P w 0 (fun _ => true) true (n + 1) t cs = some x)
    {c : α → List D} {ok : α → Prop} (i : Nat) {f : Field} (hf : fs[i]? = some f) (ho : Opens enc P w f.type c ok n) : ∃ a, ok a ∧ Seg w cs f.offset (c a) := by
  obtain ⟨xs, m, hm, _, _, hl, hg⟩ := DataW.trod_struct ht h
  obtain rfl : n = m := by omega
  have hi : i < xs.length := by
    have := (Array.getElem?_eq_some_iff.1 hf).1
    omega
  have h1 := hg i f hf
  rw [List.getElem?_eq_getElem hi] at h1
  obtain ⟨a, ha, _, hs⟩ := ho _ _ h1
  refine ⟨a, ha, fun j d hd => ?_⟩
  obtain ⟨v, hv, hV⟩ := hs j d hd
  refine ⟨v, ?_, hV⟩
  rw [Nat.zero_add, List.getElem?_take] at hv
  split at hv
  · rwa [List.getElem?_drop] at hv
  · cases hv

theorem struct_len {t : TypeId} {fs : Array Field} {cs : List Value} {n : Nat} {x : DataW H × List MemPlace} (ht : P.underlying t = some (.struct fs)) (h : DataW.trod enc P w 0 (fun _ => true) true (n + 1) t cs = some x) : cs.length = P.cellsOf t := by
  obtain ⟨xs, m, hm, _, hl, _, hg⟩ := DataW.trod_struct ht h
  exact hl

theorem Opens.zero {α : Type} {t : TypeId} {c : α → List D} {ok : α → Prop} : Opens enc P w t c ok 0 := fun cs x h => by simp [DataW.trod] at h

theorem opens_slb {α : Type} {t e : TypeId} {k : Nat} {f : α → D} {ok : α → Prop} {n : Nat} (ht : P.underlying t = some (.slice e)) (hk : P.cellsOf e = k) (hk0 : 0 < k) (hlen : ∀ a, (f a).cells.length = k)
    (he : ∀ m, m < n → Opens enc P w e (fun a => (f a).cells) ok m) : Opens enc P w t (fun l : List α => [.sl false (l.map f)]) (fun l => l.length ≤ 9223372036854775807 ∧ ∀ a ∈ l, ok a) n := by
  cases n with
  | zero => exact Opens.zero
  | succ n => exact opens_sl ht hk hk0 hlen (he n (Nat.lt_succ_self n))

def isSt (P : Program) (t : TypeId) : Bool := match P.underlying t with
  | some (.struct _) => true
  | _ => false
def fieldAt (P : Program) (t : TypeId) (i : Nat) : Option (TypeId × Nat) := match P.underlying t with
  | some (.struct fs) => (fs[i]?).map fun f => (f.type, f.offset)
  | _ => none

theorem open_at {α : Type} {t ft : TypeId} {off : Nat} {cs : List Value} {n : Nat} {x : DataW H × List MemPlace} {c : α → List D} {ok : α → Prop} (i : Nat) (hf : fieldAt P t i = some (ft, off))
    (h : DataW.trod enc P w 0 (fun _ => true) true (n + 1) t cs = some x) (ho : Opens enc P w ft c ok n) : ∃ a, ok a ∧ Seg w cs off (c a) := by
  unfold fieldAt at hf
  split at hf
  · rename_i fs hs
    obtain ⟨f, h1, h2⟩ := Option.map_eq_some_iff.1 hf
    cases h2
    exact open_field hs h i h1 ho
  · cases hf

theorem open_len {t : TypeId} {cs : List Value} {n : Nat} {x : DataW H × List MemPlace} (hs : isSt P t = true) (h : DataW.trod enc P w 0 (fun _ => true) true (n + 1) t cs = some x) : cs.length = P.cellsOf t := by
  unfold isSt at hs
  split at hs
  · rename_i fs ht
    exact struct_len ht h
  · cases hs

/-! ## Whole values -/

theorem open_agg {α : Type} {t : TypeId} {c : α → List D} {ok : α → Prop} {b0 : Nat} {v : Value} {d : DataW H} {ps : List MemPlace} (hs : isSt P t = true) (ho : ∀ n, Opens enc P w t c ok n)
    (hval : Value.okWide P w .any b0 t v) (h : DataW.Trod enc P w 0 (fun _ => true) true t v d ps) : ∃ a, ok a ∧ V (G0 w) w v (.agg (c a)) := by
  obtain ⟨n, hn⟩ := h
  obtain ⟨fs, ht⟩ : ∃ fs, P.underlying t = some (.struct fs) := by
    unfold isSt at hs
    split at hs
    · rename_i fs h
      exact ⟨fs, h⟩
    · cases hs
  unfold Value.okWide at hval
  rw [ht] at hval
  obtain ⟨cs, rfl, _, _⟩ := hval
  obtain ⟨a, ha, hl, hs⟩ := ho n _ _ hn
  have hl' : cs.size = (c a).length := by simpa [Value.cells] using hl
  refine ⟨a, ha, .agg hl' fun i x d hx hd => ?_⟩
  obtain ⟨y, hy, hV⟩ := hs i d hd
  have : cs[i]? = some y := by simpa [Value.cells] using hy
  rw [hx] at this
  cases this
  exact hV

theorem open_cell {α : Type} {t : TypeId} {f : α → D} {ok : α → Prop} {b0 : Nat} {v : Value} {d : DataW H} {ps : List MemPlace} (ht : ∀ cs, ¬ Value.okWide P w .any b0 t (.agg cs)) (ho : ∀ n, Opens enc P w t (fun a => [f a]) ok n)
    (hval : Value.okWide P w .any b0 t v) (h : DataW.Trod enc P w 0 (fun _ => true) true t v d ps) : ∃ a, ok a ∧ V (G0 w) w v (f a) := by
  obtain ⟨n, hn⟩ := h
  have hc : v.cells = #[v] := by
    cases v with
    | agg cs => exact absurd hval (ht cs)
    | _ => rfl
  rw [hc] at hn
  obtain ⟨a, ha, _, hs⟩ := ho n _ _ hn
  obtain ⟨y, hy, hV⟩ := hs 0 (f a) rfl
  cases hy
  exact ⟨a, ha, hV⟩

theorem not_agg_slice {t e : TypeId} {b0 : Nat} (ht : P.underlying t = some (.slice e)) (cs : Array Value) : ¬ Value.okWide P w .any b0 t (.agg cs) := by
  unfold Value.okWide Cell.okWide Cell.ok
  simp [ht]
theorem not_agg_string {t : TypeId} {b0 : Nat} (ht : P.underlying t = some .string) (cs : Array Value) : ¬ Value.okWide P w .any b0 t (.agg cs) := by
  unfold Value.okWide Cell.okWide Cell.ok
  simp [ht]
theorem not_agg_int {t : TypeId} {k : IntKind} {b0 : Nat} (ht : P.underlying t = some (.int k)) (cs : Array Value) : ¬ Value.okWide P w .any b0 t (.agg cs) := by
  unfold Value.okWide Cell.okWide Cell.ok
  simp [ht]
theorem not_agg_bool {t : TypeId} {b0 : Nat} (ht : P.underlying t = some .bool) (cs : Array Value) : ¬ Value.okWide P w .any b0 t (.agg cs) := by
  unfold Value.okWide Cell.okWide Cell.ok
  simp [ht]

/-! ## From a contract to the form of the rows -/

/-- A law that answers true: what the rows ask of it. -/
theorem law_calls {E : Ctx} {f : FuncId} {l : List D} {W : World} (h : ∀ g d, ACalls E f l [] g d (dB true) []) (hA : E.A W) {vs : Array Value} (hv : Vs (G0 W) W vs l) :
    Calls E.P f vs W fun e W' => e = .returned (.bool true) ∧ Below W.heap.size W W' := by
  refine ((h 0 0).run W hA (G0 W) W vs (wf0 W) hv (objs0 W) ⟨Nat.zero_lt_one, fun _ => rfl⟩).mono ?_
  rintro e w' ⟨v, G', rfl, hw, hV, _, _⟩
  rw [V.of_val hV]
  exact ⟨rfl, hw.below⟩

end Go.Ab

namespace Go.Ab
open Go Go.RowKit

/-! # From a law's contract to its row -/

variable {H : Type} {enc : TypeId × Value → H} {P : Program} {W W' : World}

theorem trodAll_carry (hl : laidOutB P = true) (hb : Below W.heap.size W W') : ∀ {ts : List TypeId} {vs : List Value} {ds : List (DataW H)} {ps : List MemPlace},
    (∀ t ∈ ts, P.readableRec t = true ∧ t < P.types.size) → DataW.TrodAll enc P W 0 (fun _ => true) true ts vs ds ps → (∀ x ∈ ps, x.block < W.heap.size) → DataW.TrodAll enc P W' 0 (fun b => decide (b < W.heap.size)) true ts vs ds ps
  | [], [], [], _, _, h, _ => h
  | t :: ts, v :: vs, d :: ds, ps, ht, h, hlt => by
    obtain ⟨p, q, h1, h2, rfl⟩ := h
    have ht1 := ht t List.mem_cons_self
    exact ⟨p, q, Below.trod hl ht1.1 ht1.2 h1 hb (fun x hx => hlt x (List.mem_append_left _ hx)),
      trodAll_carry hl hb (fun u hu => ht u (List.mem_cons_of_mem _ hu)) h2 (fun x hx => hlt x (List.mem_append_right _ hx)), rfl⟩
  | [], [], _ :: _, _, _, h, _ => absurd h (by intro h; cases h)
  | [], _ :: _, _, _, _, h, _ => absurd h (by intro h; cases h)
  | _ :: _, [], _, _, _, h, _ => absurd h (by intro h; cases h)
  | _ :: _, _ :: _, [], _, _, h, _ => absurd h (by intro h; cases h)

def readsB (P : Program) (ts : List TypeId) : Bool := ts.all fun t => P.readableRec t && decide (t < P.types.size)

theorem lifted {E : Ctx} {C : Checked} {os : Os} {f : FuncId} {fn : Func} {s : ChangeSpec} {apart fresh handsOn : Bool} {laid : List (String × DataW Unit)} {tb : TypeId} (hE : E.P = C.prog)
    (hA : ∀ W, laidMetH C.prog laid W → E.A W) (own : ownKnob C.prog.godebug = none) (started : os.Started) (noInit : C.prog.inits.idxOf? f = none) (hfn : C.prog.funcs[f]? = some fn)
    (witness : ∃ (w : World) (tape : Tape) (i : Input), w.os = os ∧ (w.forCall tape i).Shaped C.prog ∧ i.vars = [] ∧ Input.okWide C.prog (w.forCall tape i) .any w.heap.size f i ∧
      ((s.pre enc C.prog fn [] apart (w.forCall tape i).memory i.args ∧ laidMetH C.prog laid (w.forCall tape i).memory) ∧ sizedMet enc C.prog fn (OpenSpec.ofChange s) apart (w.forCall tape i).memory i.args) ∧ ({} : Assume).holds C.prog (lone (Frame.enter C.prog f i.args .normal) [] (w.forCall tape i)))
    (hvars : s.vars = []) (hres : fn.resultTypes = #[tb]) (htb : C.prog.underlying tb = some .bool) (hlo : laidOutB C.prog = true) (hrd : readsB C.prog fn.params.toList = true)
    (hopen : ∀ (W : World) (base : Nat) (args : Array Value) (ds : List (DataW H)) (p : List MemPlace), (∀ (j : Nat) t v, fn.params[j]? = some t → args[j]? = some v → Value.okWide C.prog W .any base t v) →
      DataW.TrodAll enc C.prog W 0 (fun _ => true) true fn.params.toList args.toList ds p →
      (∃ l, Vs (G0 W) W args l ∧ ∀ g d, ACalls E f l [] g d (dB true) []) ∧ s.fn H ds = { results := [.lit (.bool true)], args := ds }) :
    ReturnsInHanded {} C os f .any (fun w args => (s.pre enc C.prog fn [] apart w args ∧ laidMetH C.prog laid w) ∧ sizedMet enc C.prog fn (OpenSpec.ofChange s) apart w args)
      (s.post enc C.prog fn apart fresh handsOn false) := by
  refine returnsInHanded_of_change_and (C := C) (X := fun w _ => laidMetH C.prog laid w) (fun _ _ _ hh h => h.of_heap hh) own started noInit hfn witness ?_
  intro W base args ds gs before hval hW _ _ hL _
  have hW' := hW
  obtain ⟨p, q, hT, hV, rfl, hfz, hnd⟩ := hW
  rw [hvars] at hV
  obtain ⟨rfl, rfl⟩ : gs = [] ∧ q = [] := by
    cases gs with
    | nil => exact ⟨rfl, hV⟩
    | cons g r => exact absurd hV (by intro h; cases h)
  obtain ⟨⟨l, hvs, hl⟩, hs⟩ := hopen W base args ds p hval hT
  have hc := law_calls hl (hA W hL) hvs
  rw [hE] at hc
  refine hc.mono fun e W' ⟨he, hb⟩ => ⟨_, he, ds, [], _, [], p, [], hW', ?_, ?_, ?_, hb.frame _, fun h => by cases h⟩
  · rw [List.append_nil, hs, hres]
    exact ⟨[], [], shut_bool htb true, rfl, rfl⟩
  · rw [List.append_nil, hs]
    refine trodAll_carry hlo hb (fun t ht => ?_) hT (fun x hx => by simpa using hW'.lt x (List.mem_append_left _ hx))
    have := List.all_eq_true.1 hrd t ht
    simpa using this
  · rw [List.append_nil, hs, hvars]
    rfl

theorem Vs.cons {G : Gh} {w : World} {v : Value} {vs : Array Value} {d : D} {ds : List D} (h : V G w v d) (hs : Vs G w vs ds) : Vs G w (#[v] ++ vs) (d :: ds) :=
  Vs.append (a := #[v]) (x := [d]) ⟨rfl, fun i c d' hc hd => by
    cases i with
    | zero => cases hc; cases hd; exact h
    | succ i => simp at hd⟩ hs
theorem Vs.nil (G : Gh) (w : World) : Vs G w #[] [] := ⟨rfl, fun i c d hc hd => by simp at hd⟩
theorem Vs.one1 {G : Gh} {w : World} {v : Value} {d : D} (h : V G w v d) : Vs G w #[v] [d] := by simpa using Vs.cons h (Vs.nil G w)
theorem Vs.two {G : Gh} {w : World} {v v' : Value} {d d' : D} (h : V G w v d) (h' : V G w v' d') : Vs G w #[v, v'] [d, d'] := by simpa using Vs.cons h (Vs.one1 h')
theorem Vs.three {G : Gh} {w : World} {v v' v'' : Value} {d d' d'' : D} (h : V G w v d) (h' : V G w v' d') (h'' : V G w v'' d'') : Vs G w #[v, v', v''] [d, d', d''] := by simpa using Vs.cons h (Vs.two h' h'')
theorem Vs.four {G : Gh} {w : World} {v v' v'' v3 : Value} {d d' d'' d3 : D} (h : V G w v d) (h' : V G w v' d') (h'' : V G w v'' d'') (h3 : V G w v3 d3) : Vs G w #[v, v', v'', v3] [d, d', d'', d3] := by simpa using Vs.cons h (Vs.three h' h'' h3)

end Go.Ab

namespace Go.Ab
open Go
/-! ## Zero values -/
def zType : Value := .agg #[.string ByteArray.empty, .slice none 0 0, .int .i64 0]
def zSig : Value := .agg #[.string ByteArray.empty, .slice none 0 0, .slice none 0 0, .string ByteArray.empty, .slice none 0 0, .int .i64 0, .int .i64 0]
end Go.Ab

namespace Go.Ab
open Go Go.RowKit

section
variable {E : Ctx} {N : Nat} {l : List Oper} {g : Nat} {st : St}

def regOk2 (N : Nat) (l : List Oper) (nq : Nat) : Bool :=
  dstsOk N l && edgesOk 0 l && allIdx (looksOk (masks l []) l) 0 l && allIdx (fun i _ => decide (i < nq + 1) || (List.range i).all fun j => bit (masks l []) i j) 0 l

/-- What holds when the operations in L have come up. -/
structure Inv2 (w0 : World) (E : Ctx) (N : Nat) (l : List Oper) (g : Nat) (st : St) (tr : List (D × Sto)) (G1 : Gh) (w1 : World) (L : Nat → Bool) (τ0 τ : Kp) (G : Gh) (w : World) (a : Act) : Prop where
  size : a.tmps.size = N
  defers : Marks G w a.defers
  wf : WF w0 G w
  old : ∀ t d, lk st.env t = some d → (∀ (j : Nat) o, L j = true → l[j]? = some o → o.dst ≠ some t) → t < N ∧ V G w (a.tmps.getD t undef) d
  new : ∀ (j : Nat) o t v nw, L j = true → l[j]? = some o → o.dst = some t → tr[j]? = some (v, nw) → V G w (a.tmps.getD t undef) v
  objs : Objs w0 G w (Kp.or (kapp L 0 tr (get st.σ)) τ)
  fresh : g < G.top ∧ ∀ (j : Nat) o d, L j = false → l[j]? = some o → o.dst = some d → ∀ q, G.ρ ⟨g, d, q⟩ = none
  step : Step (fun n => n.g = g) G1 w1 (Kp.or (get st.σ) τ0) G w (Kp.or (kapp L 0 tr (get st.σ)) τ)
  down : Down l (fun i => L i = true)

/-- An operation of the first part comes up. -/
theorem inv2_step {w0 : World} (hA : E.A w0) {nq : Nat} (hok : regOk2 N l nq = true) {tr : List (D × Sto)} {env' : List (Nat × D)} (htr : QTrace E l g st.σ (l.take nq) st.env tr env') (hσg : ∀ i j, get st.σ ⟨g, i, j⟩ = none)
    {G1 : Gh} {w1 : World} {L : Nat → Bool} {τ0 τ : Kp} {G : Gh} {w : World} {a : Act} (hI : Inv2 w0 E N l g st tr G1 w1 L τ0 τ G w a) {i : Nat} {o : Oper} (hi : l[i]? = some o) (hin : i < nq) (hL : L i = false) (hready : ∀ e ∈ o.after, Region.binds .any e = true → L e.on = true)
    {L' : Nat → Bool} (hL' : L' i = true) (hLo : ∀ j, j ≠ i → L' j = L j) {Q' : Exit → Act → World → Prop} {K : Act → World → Prop} (hK : ∀ G' w' a', Inv2 w0 E N l g st tr G1 w1 L' τ0 τ G' w' a' → K a' w') : ∀ r, wpOpIn (Fr r) 0 E.P l.toArray Q' i K a w := by
  intro rd
  simp only [regOk2, Bool.and_eq_true] at hok
  obtain ⟨⟨⟨hd, hE⟩, hlk⟩, _⟩ := hok
  obtain ⟨hnd, hlt⟩ := dstsOk_spec hd
  have hlook := allIdx_spec hlk i o hi
  simp only [Nat.zero_add] at hlook
  have hq : (l.take nq)[i]? = some o := by rw [List.getElem?_take, if_pos hin]; exact hi
  obtain ⟨envi, v, nw, ht1, ht2, hstep⟩ := htr.split i o hq
  -- a temporary that the operation looks at holds what it did in the order of the text
  have hsee : ∀ t d, t ∈ looks l o → lk envi t = some d → t < a.tmps.size ∧ V G w (a.tmps.getD t undef) d := by
    intro t d ht hl
    rw [hI.size]
    rcases ht1.env t with ⟨j, o', v', nw', k1, k2, k3, k4⟩ | ⟨k1, k2⟩
    · rw [k4] at hl
      cases hl
      have hji : j < i ∧ l[j]? = some o' := by
        rw [List.getElem?_take] at k1
        split at k1
        · rename_i h1
          rw [List.getElem?_take] at k1
          split at k1
          · exact ⟨h1, k1⟩
          · cases k1
        · cases k1
      have hb := looksOk_spec hlook ht hji.2 k2 (by omega)
      rw [if_pos hji.1] at hb
      obtain ⟨m, hm, hbit⟩ := bit_spec hb
      have hLj := anc hE hI.down i o hi hready j m hm hbit
      have k3' : tr[j]? = some (d, nw') := by
        rw [List.getElem?_take] at k3
        split at k3
        · exact k3
        · cases k3
      exact ⟨hlt o' (List.mem_of_getElem? hji.2) t k2, hI.new j o' t d nw' hLj hji.2 k2 k3'⟩
    · rw [k2] at hl
      refine hI.old t d hl fun j o' hLj hj hdj => ?_
      have hji : ¬ j < i := fun h => k1 j o' (by rw [List.getElem?_take, if_pos h, List.getElem?_take, if_pos (by omega)]; exact hj) hdj
      have hne : j ≠ i := fun e => by subst e; rw [hL] at hLj; cases hLj
      have hb := looksOk_spec hlook ht hj hdj hne
      rw [if_neg hji] at hb
      obtain ⟨m, hm, hbit⟩ := bit_spec hb
      have := anc hE hI.down j o' hj (hI.down j o' hj hLj) i m hm hbit
      rw [hL] at this
      cases this
  have hdst : ∀ d, o.dst = some d → d < a.tmps.size := fun d hd' => by rw [hI.size]; exact hlt o (List.mem_of_getElem? hi) d hd'
  have hlen := htr.length
  have hilt : i < (l.take nq).length := (List.getElem?_eq_some_iff.1 hq).1
  -- names of different operations' new things are different
  have names : ∀ (j : Nat) p, tr[j]? = some p → ∀ q ∈ p.2, q.1.g = g ∧ ∃ o', l[j]? = some o' ∧ o'.dst = some q.1.i := by
    intro j p hp q hq'
    have hjl : j < (l.take nq).length := by have := (List.getElem?_eq_some_iff.1 hp).1; omega
    have hoj : (l.take nq)[j]? = some (l.take nq)[j] := List.getElem?_eq_getElem hjl
    obtain ⟨_, v', nw', _, k2, k3⟩ := htr.split j _ hoj
    rw [hp] at k2
    cases k2
    have hoj' : l[j]? = some (l.take nq)[j] := by
      rw [List.getElem?_take] at hoj
      split at hoj
      · exact hoj
      · cases hoj
    rcases k3 with ⟨_, _, k3⟩ | ⟨_, _, k3⟩
    · exact ⟨(k3 q hq').1, _, hoj', (k3 q hq').2⟩
    · simp only at hq'
      rw [k3] at hq'
      cases hq'
  have hdis : ∀ (j : Nat) p, tr[j]? = some p → 0 + j ≠ i → Dis (get nw) (get p.2) := by
    intro j p hp hne n
    cases h1 : get nw n with
    | none => exact .inl rfl
    | some x =>
      cases h2 : get p.2 n with
      | none => exact .inr rfl
      | some y =>
        obtain ⟨_, o1, q1, q2⟩ := names i _ ht2 (n, x) (mem_of_get h1)
        obtain ⟨_, o2, q3, q4⟩ := names j _ hp (n, y) (mem_of_get h2)
        exact absurd (nodup_dst hnd i j o1 o2 _ q1 q3 q2 q4) (by omega)
  have hput := kapp_put hL hL' hLo 0 tr (get st.σ) v nw (Nat.zero_le _) (by simpa using ht2) hdis
  -- what follows once a value is there
  have fin : ∀ G' w' x, WF w0 G' w' → V G' w' x v → Objs w0 G' w' (Kp.or (kapp L' 0 tr (get st.σ)) τ) → Step (rsv g o.dst) G w (Kp.or (kapp L 0 tr (get st.σ)) τ) G' w' (Kp.or (kapp L' 0 tr (get st.σ)) τ) → K (a.put o.dst x) w' := by
    intro G' w' x hw' hv ho hs
    have hsame : ∀ t, o.dst ≠ some t → (a.put o.dst x).tmps.getD t undef = a.tmps.getD t undef := by
      intro t ht
      cases hdo : o.dst with
      | none => rfl
      | some d =>
        simp only [Act.put, Array.getD_eq_getD_getElem?, Array.getElem?_setIfInBounds]
        rw [if_neg (fun e => ht (by rw [hdo, e]))]
    refine hK G' w' _ ⟨by rw [put_size, hI.size], by cases o.dst <;> exact hI.defers.step hs hI.wf hI.objs, hw', fun t d hl hno => ?_, fun j o' t v' nw' hLj hj hdj hp => ?_, ho, ⟨Nat.lt_of_lt_of_le hI.fresh.1 hs.top, fun j o' d hLj hj hdj q => ?_⟩, hI.step.trans (hs.weaken fun n _ hn => hn.1), fun j o' hj hLj e he hb => ?_⟩
    · have hne : o.dst ≠ some t := hno i o hL' hi
      rw [hsame t hne]
      obtain ⟨h1, h2⟩ := hI.old t d hl fun j o' hLj hj => by
        by_cases hji : j = i
        · subst hji; rw [hL] at hLj; cases hLj
        · exact hno j o' (by rw [hLo j hji]; exact hLj) hj
      exact ⟨h1, h2.step hs hI.wf hI.objs⟩
    · by_cases hji : j = i
      · subst hji
        rw [hi] at hj
        cases hj
        rw [ht2] at hp
        cases hp
        have := hdst t hdj
        simp only [hdj, Act.put, Array.getD_eq_getD_getElem?, Array.getElem?_setIfInBounds]
        simp only [↓reduceIte, this, Option.getD_some]
        exact hv
      · rw [hLo j hji] at hLj
        rw [hsame t fun e => hji (nodup_dst hnd j i o' o t hj hi hdj e)]
        exact (hI.new j o' t v' nw' hLj hj hdj hp).step hs hI.wf hI.objs
    · have hji : j ≠ i := fun e => by subst e; rw [hL'] at hLj; cases hLj
      rw [hLo j hji] at hLj
      exact hs.fresh hI.fresh.1 (hI.fresh.2 j o' d hLj hj hdj q) fun ⟨_, he⟩ => hji (nodup_dst hnd j i o' o d hj hi hdj he)
    · have keep : L e.on = true → L' e.on = true := fun h => by
        by_cases h' : e.on = i
        · rw [h']; exact hL'
        · rw [hLo _ h']; exact h
      by_cases hji : j = i
      · subst hji
        rw [hi] at hj
        cases hj
        exact keep (hready e he hb)
      · simp only at hLj
        rw [hLo j hji] at hLj
        exact keep (hI.down j o' hj hLj e he hb)
  unfold wpOpIn
  simp only [List.getElem?_toArray, hi]
  rcases hstep with ⟨hw, hqop, _⟩ | ⟨hw, rfl, rfl⟩
  · rw [if_pos (wanted_of hw hsee)]
    have hold : ∀ n x, get st.σ n = some x → kapp L 0 tr (get st.σ) n = some x := by
      intro n x hn
      rw [kapp_old 0 tr _ fun p hp => ?_]
      · exact hn
      · cases hg : get p.2 n with
        | none => rfl
        | some y =>
          obtain ⟨j, hj⟩ := List.mem_iff_getElem?.1 hp
          have := (names j p hj (n, y) (mem_of_get hg)).1
          obtain ⟨ng, ni, nj⟩ := n
          have this' : ng = g := this
          subst this'
          rw [hσg] at hn
          cases hn
    have hold2 : ∀ n x, get st.σ n = some x → Kp.or (kapp L 0 tr (get st.σ)) τ n = some x := fun n x hn => by simp [Kp.or, hold n x hn]
    refine hqop w0 hA G w a hI.wf (fun x hx => ?_) (hI.objs.sub hold2) (fun d hd' => ⟨hI.fresh.1, fun j => hI.fresh.2 i o d hL hi hd' j⟩) K Q' (fun G' w' x hw' hv ho hs => ?_) rd
    · cases x with
      | tmp t =>
        simp only [Act.eval, Ab.ev]
        cases hl : lk envi t with
        | none => exact .any _
        | some d => exact (hsee t d (by unfold looks; exact List.mem_append_left _ (List.mem_filterMap.2 ⟨.tmp t, by simpa using hx, rfl⟩)) hl).2
      | const v => exact V.ofV G w v
      | global g => exact E.hglob w0 hA G w hI.wf g
      | func f => exact .func rfl rfl (by simp) (by simp)
    · obtain ⟨f1, f2⟩ := frame (κs := get st.σ) (τ := fun n => if get st.σ n = none then Kp.or (kapp L 0 tr (get st.σ)) τ n else none) hI.wf hI.objs hold2 (fun n x hn => by
        split at hn
        · rename_i h0; exact ⟨hn, h0⟩
        · cases hn) hs ho
      have he : Kp.or (Kp.or (get nw) (get st.σ)) (fun n => if get st.σ n = none then Kp.or (kapp L 0 tr (get st.σ)) τ n else none) = Kp.or (kapp L' 0 tr (get st.σ)) τ := by
        rw [hput]
        funext n
        simp only [Kp.or]
        cases h1 : get nw n with
        | some y => simp
        | none =>
          simp only [Option.none_or]
          cases h2 : get st.σ n with
          | none => simp
          | some y => simp [hold n y h2]
      rw [he] at f1 f2
      exact fin G' w' x hw' hv f1 f2
  · rw [wanted_of hw hsee, if_neg (by simp)]
    refine ⟨fun f _ => fr_fn rd f, ?_⟩
    have he : kapp L' 0 tr (get st.σ) = kapp L 0 tr (get st.σ) := by
      rw [hput]
      funext n
      simp [Kp.or, get]
    exact fin G w undef hI.wf (.val _) (by rw [he]; exact hI.objs) (by rw [he]; exact .refl _ _ _ _)


theorem or_swap {a b : Kp} (h : Dis a b) : Kp.or a b = Kp.or b a := by
  funext n
  unfold Kp.or
  rcases h n with h | h <;> simp [h]

/-- The write comes up. -/
theorem late_step {w0 : World} (hA : E.A w0) {nq : Nat} (hok : regOk2 N l nq = true) {tr : List (D × Sto)} {env' : List (Nat × D)} (htr : QTrace E l g st.σ (l.take nq) st.env tr env') {n : Nm} {ob0 ob1 : Ob} (hng : n.g ≠ g) (hnσ : get st.σ n = none)
    {G1 : Gh} {w1 : World} {L : Nat → Bool} {G : Gh} {w : World} {a : Act} (hI : Inv2 w0 E N l g st tr G1 w1 L (single n ob0) (single n ob0) G w a) {o : Oper} (hi : l[nq]? = some o) (hL : ∀ j, nq ≤ j → L j = false) (hready : ∀ e ∈ o.after, Region.binds .any e = true → L e.on = true)
    (hdst : o.dst = none) (hgd : o.guard = none) (htop : TOp E g o (ev E env') (single n ob0) (.val undef) (single n ob1))
    {L' : Nat → Bool} (hL' : L' nq = true) (hLo : ∀ j, j ≠ nq → L' j = L j) {Q' : Exit → Act → World → Prop} {K : Act → World → Prop} (hK : ∀ G' w' a', Inv2 w0 E N l g st tr G1 w1 L' (single n ob0) (single n ob1) G' w' a' → K a' w') : ∀ r, wpOpIn (Fr r) 0 E.P l.toArray Q' nq K a w := by
  intro rd
  simp only [regOk2, Bool.and_eq_true] at hok
  obtain ⟨⟨⟨hd, hE⟩, hlk⟩, _⟩ := hok
  obtain ⟨hnd, hlt⟩ := dstsOk_spec hd
  have hlook := allIdx_spec hlk nq o hi
  simp only [Nat.zero_add] at hlook
  have hlen := htr.length
  have hsee : ∀ t d, t ∈ looks l o → lk env' t = some d → t < a.tmps.size ∧ V G w (a.tmps.getD t undef) d := by
    intro t d ht hl
    rw [hI.size]
    rcases htr.env t with ⟨j, o', v', nw', k1, k2, k3, k4⟩ | ⟨k1, k2⟩
    · rw [k4] at hl
      cases hl
      have hj : j < nq ∧ l[j]? = some o' := by
        rw [List.getElem?_take] at k1
        split at k1
        · rename_i h1; exact ⟨h1, k1⟩
        · cases k1
      have hb := looksOk_spec hlook ht hj.2 k2 (by omega)
      rw [if_pos hj.1] at hb
      obtain ⟨m, hm, hbit⟩ := bit_spec hb
      have hLj := anc hE hI.down nq o hi hready j m hm hbit
      exact ⟨hlt o' (List.mem_of_getElem? hj.2) t k2, hI.new j o' t d nw' hLj hj.2 k2 k3⟩
    · rw [k2] at hl
      refine hI.old t d hl fun j o' hLj hj hdj => ?_
      have hjn : j < nq := Nat.lt_of_not_le fun h => by rw [hL j h] at hLj; cases hLj
      exact k1 j o' (by rw [List.getElem?_take, if_pos hjn]; exact hj) hdj
  have hnk : kapp L 0 tr (get st.σ) n = none := by
    rw [kapp_old 0 tr _ fun p hp => ?_]
    · exact hnσ
    · obtain ⟨j, hj⟩ := List.mem_iff_getElem?.1 hp
      cases hgp : get p.2 n with
      | none => rfl
      | some y =>
        have hjl : j < (l.take nq).length := by have := (List.getElem?_eq_some_iff.1 hj).1; omega
        obtain ⟨_, v', nw', _, k2, k3⟩ := htr.split j _ (List.getElem?_eq_getElem hjl)
        rw [hj] at k2
        cases k2
        rcases k3 with ⟨_, _, k3⟩ | ⟨_, _, k3⟩
        · exact absurd (k3 (n, y) (mem_of_get hgp)).1 hng
        · simp only at hgp
          rw [k3] at hgp
          cases hgp
  have hsame : kapp L' 0 tr (get st.σ) = kapp L 0 tr (get st.σ) := by
    have hcut : ∀ (M M' : Nat → Bool), (∀ j, j < nq → M j = M' j) → ∀ (k : Nat) (r : List (D × Sto)) (κ : Kp), k + r.length ≤ nq → kapp M k r κ = kapp M' k r κ := by
      intro M M' hM k r
      induction r generalizing k with
      | nil => intro κ _; rfl
      | cons p r ih =>
        intro κ hk
        obtain ⟨v, nw⟩ := p
        simp only [List.length_cons] at hk
        simp only [kapp, hM k (by omega)]
        exact ih (k + 1) _ (by omega)
    refine hcut L' L (fun j hj => hLo j (by omega)) 0 tr _ ?_
    rw [hlen, List.length_take]; omega
  unfold wpOpIn
  simp only [List.getElem?_toArray, hi]
  rw [if_pos (by simp [Region.wanted, hgd])]
  have hdis : Dis (kapp L 0 tr (get st.σ)) (single n ob0) := fun m => by
    by_cases hm : n = m
    · subst hm; exact .inl hnk
    · exact .inr (by simp [single, hm])
  have hdis1 : Dis (kapp L 0 tr (get st.σ)) (single n ob1) := fun m => by
    by_cases hm : n = m
    · subst hm; exact .inl hnk
    · exact .inr (by simp [single, hm])
  have hsub : ∀ m x, single n ob0 m = some x → Kp.or (kapp L 0 tr (get st.σ)) (single n ob0) m = some x := fun m x hm => by
    rw [or_swap hdis]
    simp [Kp.or, hm]
  refine htop w0 hA G w a hI.wf (fun x hx => ?_) (hI.objs.sub hsub) (fun d hd' => by rw [hdst] at hd'; cases hd') K Q' (fun G' w' x hw' hv ho hs => ?_) rd
  · cases x with
    | tmp t =>
      simp only [Act.eval, Ab.ev]
      cases hl : lk env' t with
      | none => exact .any _
      | some d => exact (hsee t d (by unfold looks; exact List.mem_append_left _ (List.mem_filterMap.2 ⟨.tmp t, by simpa using hx, rfl⟩)) hl).2
    | const v => exact V.ofV G w v
    | global g => exact E.hglob w0 hA G w hI.wf g
    | func f => exact .func rfl rfl (by simp) (by simp)
  · obtain ⟨f1, f2⟩ := frame (κs := single n ob0) (τ := kapp L 0 tr (get st.σ)) hI.wf hI.objs hsub (fun m x hm => ⟨by simp [Kp.or, hm], by
        by_cases he : n = m
        · subst he; rw [hnk] at hm; cases hm
        · simp [single, he]⟩) hs ho
    have he1 : Kp.or (single n ob1) (kapp L 0 tr (get st.σ)) = Kp.or (kapp L' 0 tr (get st.σ)) (single n ob1) := by rw [hsame, or_swap hdis1]
    rw [he1] at f1 f2
    have hput : a.put o.dst x = a := by rw [hdst]; rfl
    rw [hput]
    refine hK G' w' a ⟨hI.size, hI.defers.step f2 hI.wf hI.objs, hw', fun t d hl hno => ?_, fun j o' t v' nw' hLj hj hdj hp => ?_, f1, ⟨Nat.lt_of_lt_of_le hI.fresh.1 f2.top, fun j o' d hLj hj hdj q => ?_⟩, hI.step.trans (f2.weaken fun m _ hm => hm.1), fun j o' hj hLj e he hb => ?_⟩
    · obtain ⟨h1, h2⟩ := hI.old t d hl fun j o' hLj hj => by
        by_cases hji : j = nq
        · subst hji; rw [hL j (Nat.le_refl _)] at hLj; cases hLj
        · exact hno j o' (by rw [hLo j hji]; exact hLj) hj
      exact ⟨h1, h2.step f2 hI.wf hI.objs⟩
    · by_cases hji : j = nq
      · subst hji
        rw [hi] at hj
        cases hj
        rw [hdst] at hdj
        cases hdj
      · rw [hLo j hji] at hLj
        exact (hI.new j o' t v' nw' hLj hj hdj hp).step f2 hI.wf hI.objs
    · have hji : j ≠ nq := fun e => by subst e; rw [hL'] at hLj; cases hLj
      rw [hLo j hji] at hLj
      exact f2.fresh hI.fresh.1 (hI.fresh.2 j o' d hLj hj hdj q) fun ⟨_, he⟩ => by rw [hdst] at he; cases he
    · have keep : L e.on = true → L' e.on = true := fun h => by
        by_cases h' : e.on = nq
        · rw [h']; exact hL'
        · rw [hLo _ h']; exact h
      by_cases hji : j = nq
      · subst hji
        rw [hi] at hj
        cases hj
        exact keep (hready e he hb)
      · simp only at hLj
        rw [hLo j hji] at hLj
        exact keep (hI.down j o' hj hLj e he hb)

/-- The last part: each waits for all ahead of it. -/
theorem any_of_list2 {rd : Option Nat} {P : Program} {Q' : Exit → Act → World → Prop} {nq : Nat} (hE : edgesOk 0 l = true) (htail : allIdx (fun i _ => decide (i < nq) || (List.range i).all fun j => bit (masks l []) i j) 0 l = true) :
    ∀ (fuel k : Nat) (A : Array Bool) (a : Act) (w : World), A.size = l.length → nq ≤ k + 1 → k + fuel = l.length → (∀ j, j < l.length → A.getD j true = decide (j < k)) → wpListIn (Fr rd) 0 P l.toArray Q' (l.drop k) a w →
      wpAnyIn (Fr rd) 0 P .any l.toArray Q' fuel A a w := by
  intro fuel
  induction fuel with
  | zero =>
    intro k A a w _ _ hk hA h
    rw [List.drop_eq_nil_of_le (by omega)] at h
    refine ⟨?_, h⟩
    cases hr : Region.ready .any l.toArray A with
    | nil => rfl
    | cons i r =>
      have hi : i ∈ Region.ready .any l.toArray A := by rw [hr]; exact List.mem_cons_self
      obtain ⟨h1, o, h2, _⟩ := mem_ready.1 hi
      simp only [List.getElem?_toArray] at h2
      have := (List.getElem?_eq_some_iff.1 h2).1
      rw [hA i this] at h1
      simp at h1
      omega
  | succ fuel ih =>
    intro k A a w hsz hnq hk hA h
    have hkl : k < l.length := by omega
    have hok : l[k]? = some l[k] := List.getElem?_eq_getElem hkl
    have hkr : k ∈ Region.ready .any l.toArray A := by
      refine mem_ready.2 ⟨by rw [hA k hkl]; simp, l[k], by simp, fun e he hb => ?_⟩
      have := edgesOk_spec 0 l hE k _ hok e he hb
      have hA' := hA e.on (by omega)
      rw [Array.getD_eq_getD_getElem?] at hA' ⊢
      simp only [show e.on < A.size by omega, getElem?_pos, Option.getD_some] at hA' ⊢
      rw [hA']
      simp
      omega
    have hdown : Down l fun j => j < l.length ∧ A.getD j true = true := by
      intro i o hi hL e he hb
      have hil := (List.getElem?_eq_some_iff.1 hi).1
      have := edgesOk_spec 0 l hE i o hi e he hb
      have h1 := hL.2
      rw [hA i hil] at h1
      simp only [decide_eq_true_eq] at h1
      exact ⟨by omega, by rw [hA e.on (by omega)]; simp; omega⟩
    refine ⟨fun h0 => (by rw [h0] at hkr; cases hkr), fun i hi => ?_⟩
    obtain ⟨h1, o, h2, h3⟩ := mem_ready.1 hi
    simp only [List.getElem?_toArray] at h2
    have hil := (List.getElem?_eq_some_iff.1 h2).1
    rw [hA i hil] at h1
    simp only [decide_eq_false_iff_not] at h1
    have hik : i = k := by
      refine Nat.le_antisymm (Nat.le_of_not_lt fun hlt => ?_) (by omega)
      have ht := allIdx_spec htail i o h2
      simp only [Nat.zero_add, Bool.or_eq_true, decide_eq_true_eq, List.all_eq_true] at ht
      have hb := (ht.resolve_left (by omega)) k (List.mem_range.2 hlt)
      obtain ⟨m, hm, hbit⟩ := bit_spec hb
      have := anc hE hdown i o h2 (fun e he hb => by
        have h4 := h3 e he hb
        have := edgesOk_spec 0 l hE i o h2 e he hb
        refine ⟨by omega, ?_⟩
        rw [Array.getD_eq_getD_getElem?] at h4 ⊢
        simp only [show e.on < A.size by omega, getElem?_pos, Option.getD_some] at h4 ⊢
        exact h4) k m hm hbit
      have := this.2
      rw [hA k hkl] at this
      simp at this
    subst hik
    rw [List.drop_eq_getElem_cons hkl] at h
    simp only [wpListIn] at h
    unfold wpOpIn
    simp only [List.getElem?_toArray, hok]
    have next : ∀ a w, wpListIn (Fr rd) 0 P l.toArray Q' (l.drop (i + 1)) a w → wpAnyIn (Fr rd) 0 P .any l.toArray Q' fuel (A.setIfInBounds i true) a w := fun a w hw => by
      refine ih (i + 1) (A.setIfInBounds i true) a w (by simpa using hsz) (by omega) (by omega) (fun j hj => ?_) hw
      by_cases hji : i = j
      · subst hji
        simp [show i < A.size by omega]
      · rw [getD_set_ne true hji, hA j hj]
        congr 1
        simp only [eq_iff_iff]
        omega
    split
    · rename_i hw
      rw [if_pos hw] at h
      exact Oper.wpIn_mono next h
    · rename_i hw
      rw [if_neg hw] at h
      exact ⟨fun f _ => fr_fn rd f, next _ _ h.2⟩


/-- The write is done. -/
theorem any_of_late {rd : Option Nat} {w0 : World} (hA : E.A w0) {nq : Nat} (hnq : nq < l.length) (hok : regOk2 N l nq = true) {tr : List (D × Sto)} {env' : List (Nat × D)} (htr : QTrace E l g st.σ (l.take nq) st.env tr env') (hσg : ∀ i j, get st.σ ⟨g, i, j⟩ = none) {τ0 τ : Kp}
    {G1 : Gh} {w1 : World} {Q' : Exit → Act → World → Prop} (hend : ∀ L G w a, (∀ j, j < nq → L j = true) → (∀ j, nq + 1 ≤ j → L j = false) → Inv2 w0 E N l g st tr G1 w1 L τ0 τ G w a → wpListIn (Fr rd) 0 E.P l.toArray Q' (l.drop (nq + 1)) a w) :
    ∀ (fuel : Nat) (A : Array Bool) (G : Gh) (w : World) (a : Act), A.size = l.length → left A l.length = fuel → A.getD nq true = true → (∀ j, nq + 1 ≤ j → j < l.length → A.getD j true = false) → Inv2 w0 E N l g st tr G1 w1 (fun j => A.getD j false) τ0 τ G w a →
      wpAnyIn (Fr rd) 0 E.P .any l.toArray Q' fuel A a w := by
  have hok' := hok
  simp only [regOk2, Bool.and_eq_true] at hok'
  obtain ⟨⟨⟨_, hE⟩, _⟩, htail⟩ := hok'
  have same : ∀ (A : Array Bool) (j : Nat), A.size = l.length → j < l.length → A.getD j true = A.getD j false := fun A j h1 h2 => by
    simp [show j < A.size by omega]
  intro fuel
  induction fuel with
  | zero =>
    intro A G w a hsz hlf hS hT hI
    have hall := left_zero hlf
    have hn : nq + 1 = l.length := by
      refine Nat.le_antisymm hnq (Nat.le_of_not_lt fun hlt => ?_)
      have h1 := hall (nq + 1) hlt
      rw [hT (nq + 1) (Nat.le_refl _) hlt] at h1
      cases h1
    refine any_of_list2 hE htail 0 l.length A a w hsz (by omega) (by omega) (fun j hj => by rw [hall j hj]; simp [hj]) ?_
    rw [← hn]
    refine hend _ G w a (fun j hj => by rw [← same A j hsz (by omega)]; exact hall j (by omega)) (fun j hj => ?_) hI
    simp [Array.getElem?_eq_none (show A.size ≤ j by omega)]
  | succ fuel ih =>
    intro A G w a hsz hlf hS hT hI
    by_cases hQ : left A nq = 0
    · have hall := left_zero hQ
      have hcount : left A l.length = l.length - (nq + 1) := by
        have : ∀ m, nq + 1 ≤ m → m ≤ l.length → left A m = m - (nq + 1) := by
          intro m
          induction m with
          | zero => intro h1 _; omega
          | succ m ihm =>
            intro h1 h2
            by_cases h3 : nq = m
            · rw [left_succ, ← h3, hQ, hS]; simp
            · rw [left_succ, ihm (by omega) (by omega), hT m (by omega) (by omega)]
              simp
              omega
        exact this _ hnq (Nat.le_refl _)
      have hall2 : ∀ j, j < nq + 1 → A.getD j true = true := fun j hj => by
        by_cases h : j < nq
        · exact hall j h
        · have : j = nq := by omega
          subst this; exact hS
      refine any_of_list2 hE htail (fuel + 1) (nq + 1) A a w hsz (by omega) (by omega) (fun j hj => ?_) ?_
      · by_cases h : j < nq + 1
        · rw [hall2 j h]; simp [h]
        · rw [hT j (by omega) hj]; simp [h]
      · refine hend _ G w a (fun j hj => by rw [← same A j hsz (by omega)]; exact hall j hj) (fun j hj => ?_) hI
        by_cases h : j < l.length
        · rw [← same A j hsz h]; exact hT j hj h
        · simp [Array.getElem?_eq_none (show A.size ≤ j by omega)]
    · obtain ⟨q, hq1, hq2, hq3⟩ := left_pos hQ
      have hoq : l[q]? = some l[q] := List.getElem?_eq_getElem (by omega)
      have hqr : q ∈ Region.ready .any l.toArray A := by
        refine mem_ready.2 ⟨hq2, l[q], by simp, fun e he hb => ?_⟩
        have := edgesOk_spec 0 l hE q _ hoq e he hb
        rw [← same A e.on hsz (by omega)]
        exact hq3 e.on (by omega)
      refine ⟨fun h0 => (by rw [h0] at hqr; cases hqr), fun i hi => ?_⟩
      obtain ⟨h1, o, h2, h3⟩ := mem_ready.1 hi
      simp only [List.getElem?_toArray] at h2
      have hil := (List.getElem?_eq_some_iff.1 h2).1
      have hin : i < nq := by
        refine Nat.lt_of_not_le fun hge => ?_
        by_cases hne : i = nq
        · subst hne; rw [hS] at h1; cases h1
        have ht := allIdx_spec htail i o h2
        simp only [Nat.zero_add, Bool.or_eq_true, decide_eq_true_eq, List.all_eq_true] at ht
        have hb := (ht.resolve_left (by omega)) q (List.mem_range.2 (by omega))
        obtain ⟨m, hm, hbit⟩ := bit_spec hb
        have := anc hE hI.down i o h2 h3 q m hm hbit
        rw [← same A q hsz (by omega), hq2] at this
        cases this
      refine inv2_step hA hok htr hσg hI h2 hin (by rw [← same A i hsz hil]; exact h1) h3 (L' := fun j => (A.setIfInBounds i true).getD j false) (by simp [show i < A.size by omega]) (fun j hj => getD_set_ne false (Ne.symm hj)) (fun G' w' a' hI' => ?_) rd
      refine ih (A.setIfInBounds i true) G' w' a' (by simpa using hsz) ?_ (by rw [getD_set_ne true (by omega)]; exact hS) (fun j hj1 hj2 => by rw [getD_set_ne true (by omega)]; exact hT j hj1 hj2) hI'
      have := left_set A h1 l.length
      rw [if_pos hil] at this
      omega

/-- The write is to come. -/
theorem any_of_early {rd : Option Nat} {w0 : World} (hA : E.A w0) {nq : Nat} {o : Oper} (ho : l[nq]? = some o) (hok : regOk2 N l nq = true) {tr : List (D × Sto)} {env' : List (Nat × D)} (htr : QTrace E l g st.σ (l.take nq) st.env tr env') (hσg : ∀ i j, get st.σ ⟨g, i, j⟩ = none)
    {n : Nm} {ob0 ob1 : Ob} (hng : n.g ≠ g) (hnσ : get st.σ n = none) (hdst : o.dst = none) (hgd : o.guard = none) (htop : TOp E g o (ev E env') (single n ob0) (.val undef) (single n ob1))
    {G1 : Gh} {w1 : World} {Q' : Exit → Act → World → Prop} (hend1 : ∀ L G w a, (∀ j, j < nq → L j = true) → (∀ j, nq ≤ j → L j = false) → Inv2 w0 E N l g st tr G1 w1 L (single n ob0) (single n ob0) G w a → wpListIn (Fr rd) 0 E.P l.toArray Q' (l.drop nq) a w)
    (hend2 : ∀ L G w a, (∀ j, j < nq → L j = true) → (∀ j, nq + 1 ≤ j → L j = false) → Inv2 w0 E N l g st tr G1 w1 L (single n ob0) (single n ob1) G w a → wpListIn (Fr rd) 0 E.P l.toArray Q' (l.drop (nq + 1)) a w) :
    ∀ (fuel : Nat) (A : Array Bool) (G : Gh) (w : World) (a : Act), A.size = l.length → left A l.length = fuel → (∀ j, nq ≤ j → j < l.length → A.getD j true = false) → Inv2 w0 E N l g st tr G1 w1 (fun j => A.getD j false) (single n ob0) (single n ob0) G w a →
      wpAnyIn (Fr rd) 0 E.P .any l.toArray Q' fuel A a w := by
  have hnq : nq < l.length := (List.getElem?_eq_some_iff.1 ho).1
  have hok' := hok
  simp only [regOk2, Bool.and_eq_true] at hok'
  obtain ⟨⟨⟨_, hE⟩, _⟩, htail⟩ := hok'
  have same : ∀ (A : Array Bool) (j : Nat), A.size = l.length → j < l.length → A.getD j true = A.getD j false := fun A j h1 h2 => by
    simp [show j < A.size by omega]
  intro fuel
  induction fuel with
  | zero =>
    intro A G w a hsz hlf hT hI
    have h1 := left_zero hlf nq hnq
    rw [hT nq (Nat.le_refl _) hnq] at h1
    cases h1
  | succ fuel ih =>
    intro A G w a hsz hlf hT hI
    by_cases hQ : left A nq = 0
    · have hall := left_zero hQ
      have hcount : left A l.length = l.length - nq := by
        have : ∀ m, nq ≤ m → m ≤ l.length → left A m = m - nq := by
          intro m
          induction m with
          | zero => intro h1 _; rw [Nat.le_zero.1 h1] at hQ; simp [left]
          | succ m ihm =>
            intro h1 h2
            by_cases h3 : nq = m + 1
            · rw [← h3, hQ]; omega
            · rw [left_succ, ihm (by omega) (by omega), hT m (by omega) (by omega)]
              simp
              omega
        exact this _ (by omega) (Nat.le_refl _)
      refine any_of_list2 hE htail (fuel + 1) nq A a w hsz (Nat.le_refl _) (by omega) (fun j hj => ?_) ?_
      · by_cases h : j < nq
        · rw [hall j h]; simp [h]
        · rw [hT j (by omega) hj]; simp [h]
      · refine hend1 _ G w a (fun j hj => by rw [← same A j hsz (by omega)]; exact hall j hj) (fun j hj => ?_) hI
        by_cases h : j < l.length
        · rw [← same A j hsz h]; exact hT j hj h
        · simp [Array.getElem?_eq_none (show A.size ≤ j by omega)]
    · obtain ⟨q, hq1, hq2, hq3⟩ := left_pos hQ
      have hoq : l[q]? = some l[q] := List.getElem?_eq_getElem (by omega)
      have hqr : q ∈ Region.ready .any l.toArray A := by
        refine mem_ready.2 ⟨hq2, l[q], by simp, fun e he hb => ?_⟩
        have := edgesOk_spec 0 l hE q _ hoq e he hb
        rw [← same A e.on hsz (by omega)]
        exact hq3 e.on (by omega)
      refine ⟨fun h0 => (by rw [h0] at hqr; cases hqr), fun i hi => ?_⟩
      obtain ⟨h1, o', h2, h3⟩ := mem_ready.1 hi
      simp only [List.getElem?_toArray] at h2
      have hil := (List.getElem?_eq_some_iff.1 h2).1
      have hset := left_set A h1 l.length
      rw [if_pos hil] at hset
      by_cases hin : i < nq
      · refine inv2_step hA hok htr hσg hI h2 hin (by rw [← same A i hsz hil]; exact h1) h3 (L' := fun j => (A.setIfInBounds i true).getD j false) (by simp [show i < A.size by omega]) (fun j hj => getD_set_ne false (Ne.symm hj)) (fun G' w' a' hI' => ?_) rd
        exact ih (A.setIfInBounds i true) G' w' a' (by simpa using hsz) (by omega) (fun j hj1 hj2 => by rw [getD_set_ne true (by omega)]; exact hT j hj1 hj2) hI'
      · have hie : i = nq := by
          refine Nat.le_antisymm (Nat.le_of_not_lt fun hgt => ?_) (by omega)
          have ht := allIdx_spec htail i o' h2
          simp only [Nat.zero_add, Bool.or_eq_true, decide_eq_true_eq, List.all_eq_true] at ht
          have hb := (ht.resolve_left (by omega)) q (List.mem_range.2 (by omega))
          obtain ⟨m, hm, hbit⟩ := bit_spec hb
          have := anc hE hI.down i o' h2 h3 q m hm hbit
          rw [← same A q hsz (by omega), hq2] at this
          cases this
        subst hie
        rw [ho] at h2
        cases h2
        refine late_step hA hok htr hng hnσ hI ho (fun j hj => ?_) h3 hdst hgd htop (L' := fun j => (A.setIfInBounds i true).getD j false) (by simp [show i < A.size by omega]) (fun j hj => getD_set_ne false (Ne.symm hj)) (fun G' w' a' hI' => ?_) rd
        · by_cases h : j < l.length
          · rw [← same A j hsz h]; exact hT j hj h
          · simp [Array.getElem?_eq_none (show A.size ≤ j by omega)]
        · exact any_of_late hA hil hok htr hσg hend2 fuel (A.setIfInBounds i true) G' w' a' (by simpa using hsz) (by omega) (by simp [show i < A.size by omega]) (fun j hj1 hj2 => by rw [getD_set_ne true (by omega)]; exact hT j (by omega) hj2) hI'

theorem TOp.frame {o : Oper} {e : Operand → D} {κs κs' τ κ : Kp} {v : D} (h : TOp E g o e κs v κs') (hsub : ∀ n x, κs n = some x → κ n = some x) (hτ : ∀ n x, τ n = some x → κ n = some x ∧ κs n = none) : TOp E g o e κ v (Kp.or κs' τ) := by
  intro w0 hA G w a hw hV ho hf K Q' hK
  refine h w0 hA G w a hw hV (ho.sub hsub) hf K Q' fun G' w' x hw' hv ho' hs => ?_
  obtain ⟨f1, f2⟩ := Go.Ab.frame hw ho hsub hτ hs ho'
  exact hK G' w' x hw' hv f1 f2

/-- **A region that draws its order, with a write that nothing in it looks at.** 'nq': the write's place. -/
theorem awp_late {Q : Exit → St → Prop} {id : Nat} (nq : Nat) (n : Nm) {o : Oper} (ho : l[nq]? = some o) (hdst : o.dst = none) (hgd : o.guard = none) (hok : regOk2 N l nq = true) {ob0 : Ob} (hn : get st.σ n = some ob0)
    (h : ∀ g, (∀ i j, get st.σ ⟨g, i, j⟩ = none) → QRun E l g (del st.σ n) (fun s => ∃ ob1, TOp E g o (ev E s.env) (single n ob0) (.val undef) (single n ob1) ∧ AOps E N l g (fun s => Q .normal s) (l.drop (nq + 1)) { env := s.env, σ := (n, ob1) :: s.σ }) (l.take nq) { env := st.env, σ := del st.σ n }) :
    AWp E N (.region id l.toArray true) Q st := by
  intro w0 hA G w a hN hr rd hrd
  obtain ⟨G1, ht, hf, hσ, hr1, hs1⟩ := bump hr
  have hnq : nq < l.length := (List.getElem?_eq_some_iff.1 ho).1
  have hok' := hok
  simp only [regOk2, Bool.and_eq_true] at hok'
  obtain ⟨hnd, hlt⟩ := dstsOk_spec hok'.1.1.1
  obtain ⟨tr, env', htr, ob1, htop, hK⟩ := h G.top hσ
  have hng : n.g ≠ G.top := fun e => by
    obtain ⟨ng, ni, nj⟩ := n
    simp only at e
    subst e
    rw [hσ] at hn
    cases hn
  have hnσ : get (del st.σ n) n = none := by rw [get_del]; simp
  have hσg : ∀ i j, get (del st.σ n) ⟨G.top, i, j⟩ = none := fun i j => by
    rw [get_del]
    split
    · rfl
    · exact hσ i j
  have hsplit : ∀ κ : Kp, κ = get (del st.σ n) → Kp.or κ (single n ob0) = get st.σ := fun κ hκ => by
    subst hκ
    funext m
    simp only [Kp.or, get_del, single]
    by_cases hm : n = m
    · subst hm; simp [hn]
    · simp [hm]
  refine wpIn_region_any E.mixed ?_
  have hV : ∀ v d, V G1 w v d → V G1 { w with drawn := w.drawn + 1 } v d := fun v d h => h.mono (fun _ h => h) (fun _ _ => rfl) (fun _ _ h => h)
  have hI0 : Inv2 w0 E N l G.top { env := st.env, σ := del st.σ n } tr G1 { w with drawn := w.drawn + 1 } (fun j => (Array.replicate l.length false).getD j false) (single n ob0) (single n ob0) G1 { w with drawn := w.drawn + 1 } a := by
    have hno : ∀ j, (Array.replicate l.length false).getD j false = false := fun j => by
      by_cases hj : j < l.length
      · simp [hj]
      · simp [Array.getElem?_eq_none (show (Array.replicate l.length false).size ≤ j by simp; omega)]
    have hk0 : kapp (fun j => (Array.replicate l.length false).getD j false) 0 tr (get (del st.σ n)) = get (del st.σ n) := kapp_none 0 tr _ hno
    refine ⟨hN, hr1.defers, ⟨hr1.wf.below.drew, hr1.wf.old, hr1.wf.lt, hr1.wf.nm⟩, fun t d hl _ => ⟨by rw [← hN]; exact (hr1.env t d hl).1, hV _ _ (hr1.env t d hl).2⟩, fun j o t v nw hL => ?_, ?_, ⟨by omega, fun j o d _ _ _ q => hf d q⟩, ?_, fun i o _ hL => ?_⟩
    · rw [hno] at hL; cases hL
    · simp only
      rw [hk0, hsplit _ rfl]
      exact ⟨fun n o hn => let ⟨v, h1, h2, h3⟩ := hr1.objs.ob n o hn; ⟨v, h1, h2.mono hV fun _ _ => rfl, h3⟩, hr1.objs.ne⟩
    · simp only
      rw [hk0]; exact .refl _ _ _ _
    · have hL' : (Array.replicate l.length false).getD i false = true := hL
      rw [hno] at hL'; cases hL'
  have hlen := htr.length
  have hkall : ∀ L : Nat → Bool, (∀ j, j < nq → L j = true) → kapp L 0 tr (get (del st.σ n)) = get (accN tr (del st.σ n)) := fun L hL => kapp_all 0 tr _ fun j _ hj => hL j (by rw [hlen, List.length_take] at hj; omega)
  have hnacc : get (accN tr (del st.σ n)) n = none := by
    rw [← hkall (fun _ => true) fun _ _ => rfl]
    rw [kapp_old 0 tr _ fun p hp => ?_]
    · exact hnσ
    · obtain ⟨j, hj⟩ := List.mem_iff_getElem?.1 hp
      cases hgp : get p.2 n with
      | none => rfl
      | some y =>
        have hjl : j < (l.take nq).length := by have := (List.getElem?_eq_some_iff.1 hj).1; omega
        obtain ⟨_, v', nw', _, k2, k3⟩ := htr.split j _ (List.getElem?_eq_getElem hjl)
        rw [hj] at k2
        cases k2
        rcases k3 with ⟨_, _, k3⟩ | ⟨_, _, k3⟩
        · exact absurd (k3 (n, y) (mem_of_get hgp)).1 hng
        · simp only at hgp
          rw [k3] at hgp
          cases hgp
  have hor : ∀ ob, Kp.or (get (accN tr (del st.σ n))) (single n ob) = get ((n, ob) :: accN tr (del st.σ n)) := fun ob => by
    funext m
    simp only [Kp.or, single, get]
    by_cases hm : n = m
    · subst hm; simp [hnacc]
    · simp [hm]
  have mkrel : ∀ (L : Nat → Bool) (ob : Ob) (G' : Gh) (w' : World) (a' : Act) (top : Nat), (∀ j, j < nq → L j = true) → (∀ j, top ≤ j → L j = false) → (∀ j o', nq ≤ j → j < top → l[j]? = some o' → o'.dst = none) → Inv2 w0 E N l G.top { env := st.env, σ := del st.σ n } tr G1 { w with drawn := w.drawn + 1 } L (single n ob0) (single n ob) G' w' a' →
      Rel w0 G' w' a' ⟨env', (n, ob) :: accN tr (del st.σ n)⟩ ∧ Step (fun n => n.g = G.top) G w (get st.σ) G' w' (get ((n, ob) :: accN tr (del st.σ n))) := by
    intro L ob G' w' a' top hL1 hL2 hmid hI
    have hobj := hI.objs
    have hstep := hI.step
    simp only at hobj hstep
    rw [hkall L hL1, hor] at hobj hstep
    rw [hsplit _ rfl] at hstep
    refine ⟨⟨hI.wf, fun t d hl => ?_, hobj, hI.defers⟩, ?_⟩
    · rw [hI.size]
      have get_take : ∀ (j : Nat) o, (l.take nq)[j]? = some o → j < nq ∧ l[j]? = some o := fun j o h => by
        rw [List.getElem?_take] at h
        split at h
        · rename_i hj; exact ⟨hj, h⟩
        · cases h
      rcases htr.env t with ⟨j, o, v, nw, k1, k2, k3, k4⟩ | ⟨k1, k2⟩
      · simp only at hl
        rw [k4] at hl
        cases hl
        obtain ⟨hj, hjo⟩ := get_take j o k1
        exact ⟨hlt o (List.mem_of_getElem? hjo) t k2, hI.new j o t d nw (hL1 j hj) hjo k2 k3⟩
      · simp only at hl
        rw [k2] at hl
        refine hI.old t d hl fun j o hLj hj => ?_
        by_cases hjn : j < nq
        · exact k1 j o (by rw [List.getElem?_take, if_pos hjn]; exact hj)
        · by_cases hjt : j < top
          · rw [hmid j o (by omega) hjt hj]; simp
          · rw [hL2 j (by omega)] at hLj; cases hLj
    · have hs2 : Step (fun n => n.g = G.top) G w (get st.σ) G1 { w with drawn := w.drawn + 1 } (get st.σ) :=
        ⟨Nat.le_refl _, fun _ _ _ => rfl, hs1.F, hs1.F', hs1.ρ, fun n h1 h2 _ => hs1.ρ' n h1 h2 fun h => h, hs1.top, hs1.blk', hs1.dom, hs1.base⟩
      exact hs2.trans hstep
  have hfin : ∀ (k : Nat) (L : Nat → Bool) (ob : Ob) (G' : Gh) (w' : World) (a' : Act), nq ≤ k → (∀ j, j < nq → L j = true) → (∀ j, k ≤ j → L j = false) → (∀ j o', nq ≤ j → j < k → l[j]? = some o' → o'.dst = none) → Inv2 w0 E N l G.top { env := st.env, σ := del st.σ n } tr G1 { w with drawn := w.drawn + 1 } L (single n ob0) (single n ob) G' w' a' →
      AOps E N l G.top (fun s => Q .normal s) (l.drop k) { env := env', σ := (n, ob) :: accN tr (del st.σ n) } → wpListIn (Fr rd) 0 E.P l.toArray (post w0 N no G w st.σ Q) (l.drop k) a' w' := by
    intro k L ob G' w' a' hk hL1 hL2 hmid hI hKK
    obtain ⟨hrel, hst⟩ := mkrel L ob G' w' a' k hL1 hL2 hmid hI
    refine hKK w0 hA G' w' a' hI.size hrel hI.fresh.1 ?_ (fun o ho d hd => ?_) _ (fun G2 st2 a2 w2 q1 q2 q3 q4 => ⟨G2, st2, q1, q2, ?_, q4⟩) rd
    · exact hnd.sublist ((List.drop_sublist k l).filterMap _)
    · obtain ⟨j, hj⟩ := List.mem_iff_getElem?.1 ho
      rw [List.getElem?_drop] at hj
      exact ⟨hlt o (List.mem_of_getElem? hj) d hd, hI.fresh.2 (k + j) o d (hL2 _ (by omega)) hj hd⟩
    · exact (hst.trans q3).weaken fun n hn he => by omega
  refine any_of_early (st := { env := st.env, σ := del st.σ n }) hA ho hok htr hσg hng hnσ hdst hgd htop (fun L G' w' a' hL1 hL2 hI => ?_) (fun L G' w' a' hL1 hL2 hI => ?_) l.toArray.size (Array.replicate l.toArray.size false) G1 _ a (by simp) (by simp only [List.size_toArray]; exact left_full _ _ (Nat.le_refl _)) (fun j h1 h2 => by simp [h2]) (by simpa using hI0)
  · refine hfin nq L ob0 G' w' a' (Nat.le_refl _) hL1 hL2 (fun j o' h1 h2 => absurd h1 (by omega)) hI ?_
    rw [List.drop_eq_getElem_cons hnq]
    have hoo : l[nq] = o := by rw [List.getElem?_eq_getElem hnq] at ho; exact Option.some.inj ho
    rw [hoo]
    refine aops_t (v := .val undef) (σ := (n, ob1) :: accN tr (del st.σ n)) (by simp [wantD, hgd]) ?_ (by rw [hdst]; exact hK)
    have hfr := htop.frame (κ := get ((n, ob0) :: accN tr (del st.σ n))) (τ := get (accN tr (del st.σ n))) (fun m x hm => ?_) (fun m x hm => ?_)
    · have he : Kp.or (single n ob1) (get (accN tr (del st.σ n))) = get ((n, ob1) :: accN tr (del st.σ n)) := by
        funext m
        simp only [Kp.or, single, get]
        by_cases h : n = m <;> simp [h]
      rw [he] at hfr
      exact hfr
    · simp only [single] at hm
      split at hm
      · rename_i h; subst h; cases hm; simp [get]
      · cases hm
    · by_cases h : n = m
      · subst h; rw [hnacc] at hm; cases hm
      · exact ⟨by simp [get, h, hm], by simp [single, h]⟩
  · refine hfin (nq + 1) L ob1 G' w' a' (by omega) hL1 hL2 (fun j o' h1 h2 hj => ?_) hI hK
    have : j = nq := by omega
    subst this
    rw [ho] at hj
    cases hj
    exact hdst

end
end Go.Ab

namespace Go.Ab
open Go Go.RowKit
section
variable {E : Ctx} {N : Nat} {st : St}

theorem storeD_one {P : Program} {t : TypeId} {ad v : D} {n : Nm} {ob : Ob} {σ : Sto} (h : storeD P t ad v [(n, ob)] = some σ) : ∃ ob1, σ = [(n, ob1)] := by
  have hset : ∀ (m : Nm) (o o' : Ob), get [(n, ob)] m = some o → ∃ ob1, set [(n, ob)] m o' = [(n, ob1)] := fun m o o' hm => by
    simp only [get] at hm
    split at hm
    · rename_i he
      subst he
      exact ⟨o', by simp [set]⟩
    · cases hm
  unfold storeD at h
  split at h
  · split at h
    · rename_i hk
      split at h
      · cases h; exact hset _ _ _ hk
      · cases h
    · cases h
  · split at h
    · rename_i hk
      split at h
      · split at h
        · split at h
          · cases h; exact hset _ _ _ hk
          · cases h
        · cases h
      · cases h
    · cases h
  · cases h

theorem awp_lateq {Q : Exit → St → Prop} {id : Nat} {l : List Oper} {ds : List (Option Tmp)} (nq : Nat) (n : Nm) {o : Oper} {t : TypeId} {ao x : Operand} (ho : l[nq]? = some o) (hop : o.op = .store t ao x) (hdst : o.dst = none) (hgd : o.guard = none)
    (hok : regOk2 N l nq = true) (hds : l.map (·.dst) = ds)
    (h : SomeP (get st.σ n) fun ob0 => ∀ g, (∀ i j, get st.σ ⟨g, i, j⟩ = none) → ∀ (ops : List Oper) (K : St → Prop), ops.map (·.dst) = ds → (∀ s, Q .normal s → K s) →
      QRun E ops g (del st.σ n) (fun s => SomeP (storeD E.P t (ev E s.env ao) (ev E s.env x) [(n, ob0)]) fun σ1 => AOps E N ops g K (l.drop (nq + 1)) { env := s.env, σ := σ1 ++ s.σ }) (l.take nq) { env := st.env, σ := del st.σ n }) :
    AWp E N (.region id l.toArray true) Q st := by
  obtain ⟨ob0, hn, h⟩ := h.elim
  refine awp_late nq n ho hdst hgd hok hn fun g hg => ?_
  obtain ⟨tr, env', h1, h2⟩ := h g hg l (fun s => Q .normal s) hds (fun _ h => h)
  obtain ⟨σ1, h3, h4⟩ := h2.elim
  obtain ⟨ob1, rfl⟩ := storeD_one h3
  refine ⟨tr, env', h1, ob1, ?_, h4⟩
  have := storeD_sound (E := E) (g := g) (e := ev E env') (σ := [(n, ob0)]) hop h3
  rwa [get_single, get_single] at this
end
end Go.Ab
