/- A part of the proof, under no conditions of its own: XE. -/
import Derived.Test.YtgclmhkkiafmjaaDoorXD
import Derived.Lib.LaidTab
import Derived.Sort.Grow
import Derived.Shelf.Spec.SlicesGrow
import Derived.Deep.Draws
import Derived.ProofKit
import Derived.LaidMore
import Derived.OpenShut
import Derived.Carry
import Derived.Stop.Joined
namespace Go.Ab
open Go Go.RowKit
section
variable {E : Ctx} {N : Nat} {st : St} {K : St → Prop} {Q : Exit → St → Prop}
theorem awp_t {c : Operand} {x y : Code} (hc : ev E st.env c = .val (.bool true)) (h : AWp E N x Q st) : AWp E N (.cond c x y) Q st := awp_cond hc (by simpa using h)
theorem awp_f {c : Operand} {x y : Code} (hc : ev E st.env c = .val (.bool false)) (h : AWp E N y Q st) : AWp E N (.cond c x y) Q st := awp_cond hc (by simpa using h)

def fmapD (n : Nm) (ks : KS) (es : List (Value × D)) : D → D
  | .mref m => if m = n then .fmap ks es else .mref m
  | d => d

/-- A map goes still. -/
theorem sees_fmap {K : St → Prop} (n : Nm) {ks : KS} {es : List (Value × D)} (hn : get st.σ n = some (.map ks es))
    (h : K { env := mapEnv (fmapD n ks es) st.env, σ := mapSto (fmapD n ks es) (del st.σ n) }) : Sees E st K := by
  refine sees_still hn (fmapD n ks es) (fun w0 G w v hw hv hov G' h1 h2 h3 x d hx => ?_) h
  have keep : V G' w x d := hx.mono h1 (fun _ _ => rfl) (fun m u hm => by rw [h3]; exact hm)
  cases hx with
  | mref hρ =>
    rename_i m r
    simp only [fmapD]
    split
    · rename_i he
      subst he
      rw [hρ] at hv
      cases hv
      obtain ⟨r', ms, clock, hc, hh, k1, k2, k3, k4⟩ := hov
      cases hc
      exact .fmap ms clock (h2 _ rfl) hh k1 k2 k3 fun i m e hm he => (k4 i m e hm he).mono h1 (fun _ _ => rfl) (fun m u hm => by rw [h3]; exact hm)
    · exact keep
  | _ => exact keep

/-- No name of this generation stands for an object. -/
def Fresh (σ : Sto) (g : Nat) : Prop := ∀ i j, get σ ⟨g, i, j⟩ = none

theorem fresh_g {σ : Sto} {g a : Nat} (hg : ∀ i j, get σ ⟨g, i, j⟩ = none) (i j : Nat) (h : get σ ⟨a, i, j⟩ ≠ none) : g ≠ a := fun e => h (e ▸ hg i j)

/-- The rows of an array object. -/
def arrOf (el : TypeId) (k : Nat) : Ob → Option (List D)
  | .arr t k' rows => if t = el ∧ k' = k then some rows else none
  | _ => none

theorem okRows_iff (k : Nat) (r : D) (l : List D) : okRows k (r :: l) ↔ (r.cells.length = k ∧ r.cells.all D.one = true) ∧ okRows k l :=
  ⟨fun h => ⟨h r List.mem_cons_self, fun x hx => h x (List.mem_cons_of_mem _ hx)⟩, fun h => okRows_cons h.1 h.2⟩
theorem okRows_nil' (k : Nat) : okRows k [] ↔ True := ⟨fun _ => trivial, fun _ => okRows_nil k⟩

variable {ops : List Oper} {ds : List (Option Tmp)} {g : Nat}

theorem aops_app {o : Oper} {r : List Oper} {t el : TypeId} {so x : Operand} {d : Nat} (hds : ops.map (·.dst) = ds) (hw : wantL ds st.env o.guard = some true) (hop : o.op = .call { callee := .builtin .append, args := #[so, x], argTypes := #[t, t] }) (hd : o.dst = some d)
    {n : Nm} {len : Nat} (hs : ev E st.env so = .own n len) {xf : Bool} {rows2 : List D} (hx : ev E st.env x = .sl xf rows2) {k : Nat}
    (he : elemS E.P t = some el) (hk : szOf E.P el = some k) {bs : Nat} (hbs : bytesOf E.P el = some bs) {z : Value} (hz : zeroOf E.P el = some z) (hzs : z.cells.size = k) (hk0 : 0 < k)
    (h : SomeP (get st.σ n) fun ob => SomeP (arrOf el k ob) fun rows => okRows k rows2 ∧ (rows.length + rows2.length ≤ 9223372036854775807 ∧ (rows.length + rows2.length) * bs ≤ 140737488355328) ∧
      AOps E N ops g K r { env := (d, .own ⟨g, d, 0⟩ (rows.length + rows2.length)) :: st.env, σ := (⟨g, d, 0⟩, .arr el k (rows ++ rows2)) :: del st.σ n }) : AOps E N ops g K (o :: r) st := by
  obtain ⟨ob, h1, h⟩ := h.elim
  obtain ⟨rows, h2, h3, h4, h5⟩ := h.elim
  cases ob with
  | arr t' k' rows' =>
    simp only [arrOf] at h2
    split at h2
    · rename_i hc
      obtain ⟨rfl, rfl⟩ := hc
      cases h2
      exact aops_append hds hw hop hd hs h1 hx he hk hbs hz hzs hk0 h3 h4.1 h4.2 h5
    · cases h2
  | _ => cases h2
end

def rowsOf : Ob → Option (List D)
  | .arr _ _ rows => some rows
  | _ => none
def boxOf : Ob → Option (TypeId × List D)
  | .box t cs => some (t, cs)
  | _ => none
def mapObOf : Ob → Option (KS × List (Value × D))
  | .map ks es => some (ks, es)
  | _ => none
def cellsOf : Ob → Option (List D)
  | .box _ cs => some cs
  | _ => none

section
variable {E : Ctx} {N : Nat} {st : St} {Q : Exit → St → Prop}
theorem sees_frz {K : St → Prop} (n : Nm) (h : SomeP (get st.σ n) fun ob => SomeP (rowsOf ob) fun rows => K { env := mapEnv (frzD n rows) st.env, σ := mapSto (frzD n rows) (del st.σ n) }) : Sees E st K := by
  obtain ⟨ob, h1, h⟩ := h.elim
  obtain ⟨rows, h2, h⟩ := h.elim
  cases ob with
  | arr t k rows' => cases h2; exact sees_freeze n h1 h
  | _ => cases h2
theorem sees_still_box {K : St → Prop} (n : Nm) (h : SomeP (get st.σ n) fun ob => SomeP (cellsOf ob) fun cs => K { env := mapEnv (boxD n cs) st.env, σ := mapSto (boxD n cs) (del st.σ n) }) : Sees E st K := by
  obtain ⟨ob, h1, h⟩ := h.elim
  obtain ⟨rows, h2, h⟩ := h.elim
  cases ob with
  | box t cs => cases h2; exact sees_box n h1 h
  | _ => cases h2
theorem awp_frz {c : Code} (n : Nm) (h : SomeP (get st.σ n) fun ob => SomeP (rowsOf ob) fun rows => AWp E N c Q { env := mapEnv (frzD n rows) st.env, σ := mapSto (frzD n rows) (del st.σ n) }) : AWp E N c Q st := Sees.awp (sees_frz n h)
theorem awp_still {c : Code} (n : Nm) (h : SomeP (get st.σ n) fun ob => SomeP (cellsOf ob) fun cs => AWp E N c Q { env := mapEnv (boxD n cs) st.env, σ := mapSto (boxD n cs) (del st.σ n) }) : AWp E N c Q st := Sees.awp (sees_still_box n h)
theorem sees_map {K : St → Prop} (n : Nm) (h : SomeP (get st.σ n) fun ob => SomeP (mapObOf ob) fun m => K { env := mapEnv (fmapD n m.1 m.2) st.env, σ := mapSto (fmapD n m.1 m.2) (del st.σ n) }) : Sees E st K := by
  obtain ⟨ob, h1, h⟩ := h.elim
  obtain ⟨m, h2, h⟩ := h.elim
  cases ob with
  | map ks es => cases h2; exact sees_fmap n h1 h
  | _ => cases h2
theorem awp_fmap {c : Code} (n : Nm) (h : SomeP (get st.σ n) fun ob => SomeP (mapObOf ob) fun m => AWp E N c Q { env := mapEnv (fmapD n m.1 m.2) st.env, σ := mapSto (fmapD n m.1 m.2) (del st.σ n) }) : AWp E N c Q st := Sees.awp (sees_map n h)
theorem ret_fmap {fn : Func} {g d : Nat} {r : D} {σ' : Sto} (n : Nm) (h : SomeP (get st.σ n) fun ob => SomeP (mapObOf ob) fun m => retQ E fn g d r σ' .ret { env := mapEnv (fmapD n m.1 m.2) st.env, σ := mapSto (fmapD n m.1 m.2) (del st.σ n) }) : retQ E fn g d r σ' .ret st := Ends.sees (sees_map n h)
theorem ret_still {fn : Func} {g d : Nat} {r : D} {σ' : Sto} (n : Nm) (h : SomeP (get st.σ n) fun ob => SomeP (cellsOf ob) fun cs => retQ E fn g d r σ' .ret { env := mapEnv (boxD n cs) st.env, σ := mapSto (boxD n cs) (del st.σ n) }) : retQ E fn g d r σ' .ret st := Ends.sees (sees_still_box n h)
theorem awp_nil {c : Code} (t : Nat) (ty : TypeId) (k : Nat) (ht : lk st.env t = some (.val (.slice none 0 0))) (h : ∀ g, (∀ i j, get st.σ ⟨g, i, j⟩ = none) → AWp E N c Q { env := (t, .own ⟨g, 0, 0⟩ 0) :: st.env, σ := (⟨g, 0, 0⟩, .arr ty k []) :: st.σ }) : AWp E N c Q st := Sees.awp (sees_nil t ty k ht h)
theorem awp_nil_box {c : Code} (m : Nm) (i : Nat) (ty : TypeId) (k : Nat)
    (h : SomeP (get st.σ m) fun ob => SomeP (boxOf ob) fun b => b.2[i]? = some (.val (.slice none 0 0)) ∧ ∀ g, Fresh st.σ g → AWp E N c Q { env := st.env, σ := (⟨g, 0, 0⟩, .arr ty k []) :: set st.σ m (.box b.1 (b.2.set i (.own ⟨g, 0, 0⟩ 0))) }) : AWp E N c Q st := by
  obtain ⟨ob, h1, h⟩ := h.elim
  obtain ⟨b, h2, h3, h⟩ := h.elim
  cases ob with
  | box t cs => cases h2; exact Sees.awp (sees_nil_box m i ty k h1 h3 h)
  | _ => cases h2
theorem ret_frz {fn : Func} {g d : Nat} {r : D} {σ' : Sto} (n : Nm) (h : SomeP (get st.σ n) fun ob => SomeP (rowsOf ob) fun rows => retQ E fn g d r σ' .ret { env := mapEnv (frzD n rows) st.env, σ := mapSto (frzD n rows) (del st.σ n) }) : retQ E fn g d r σ' .ret st := Ends.sees (sees_frz n h)
end

theorem ends_ev {E : Ctx} {st : St} {fn : Func} {g d : Nat} {r : D} {l : List ResultVar} (hl : fn.results = l.toArray) (h : SomeP (resD E.P st l) fun ds => Co (resV ds) r) : retQ E fn g d r [] .ret st := by
  obtain ⟨ds, h1, h2⟩ := h.elim
  exact ends_plain hl h1 h2 fun p hp => nomatch hp

/-! Ends that hand new objects back, evaluated. -/
def obsOf (σ : Sto) : List Nm → Nat → Option (List (Nm × Nat × Ob))
  | [], _ => some []
  | n :: r, j => match get σ n with
    | some o => (obsOf σ r (j + 1)).map fun l => (n, j, o) :: l
    | none => none
def notIn (n : Nm) : List Nm → Prop
  | [] => True
  | m :: r => ¬ n = m ∧ notIn n r
def apart : List Nm → Prop
  | [] => True
  | n :: r => notIn n r ∧ apart r

theorem obsOf_get {σ : Sto} : ∀ {ns : List Nm} {j : Nat} {l : List (Nm × Nat × Ob)}, obsOf σ ns j = some l → ∀ e ∈ l, get σ e.1 = some e.2.2 ∧ e.1 ∈ ns ∧ j ≤ e.2.1 ∧ look l e.2.1 = some (e.1, e.2.2)
  | [], j, l, h, e, he => by simp only [obsOf, Option.some.injEq] at h; subst h; cases he
  | n :: r, j, l, h, e, he => by
    simp only [obsOf] at h
    split at h
    · rename_i o ho
      cases hr : obsOf σ r (j + 1) with
      | none => rw [hr] at h; cases h
      | some l' =>
        rw [hr] at h
        cases h
        rcases List.mem_cons.1 he with rfl | he'
        · exact ⟨ho, List.mem_cons_self, Nat.le_refl _, by simp [look]⟩
        · obtain ⟨h1, h2, h3, h4⟩ := obsOf_get hr e he'
          exact ⟨h1, List.mem_cons_of_mem _ h2, by omega, by simp only [look]; rw [if_neg (by omega)]; exact h4⟩
    · cases h

theorem notIn_spec {n : Nm} : ∀ {l : List Nm}, notIn n l → n ∉ l
  | [], _ => by simp
  | m :: r, h => by simp only [List.mem_cons, not_or]; exact ⟨h.1, notIn_spec h.2⟩

theorem obsOf_ne {σ : Sto} : ∀ {ns : List Nm} {j : Nat} {l : List (Nm × Nat × Ob)}, apart ns → obsOf σ ns j = some l → ∀ e ∈ l, ∀ e' ∈ l, e.2.1 ≠ e'.2.1 → e.1 ≠ e'.1
  | [], j, l, _, h, e, he => by simp only [obsOf, Option.some.injEq] at h; subst h; cases he
  | n :: r, j, l, ha, h, e, he => by
    simp only [obsOf] at h
    split at h
    · rename_i o ho
      cases hr : obsOf σ r (j + 1) with
      | none => rw [hr] at h; cases h
      | some l' =>
        rw [hr] at h
        cases h
        intro e' he'
        rcases List.mem_cons.1 he with rfl | he <;> rcases List.mem_cons.1 he' with rfl | he'
        · intro h; exact absurd rfl h
        · intro _ heq
          exact notIn_spec ha.1 ((show n = e'.1 from heq) ▸ (obsOf_get hr e' he').2.1)
        · intro _ heq
          exact notIn_spec ha.1 ((show e.1 = n from heq) ▸ (obsOf_get hr e he).2.1)
        · exact obsOf_ne ha.2 hr e he e' he'
    · cases h

theorem ends_own {E : Ctx} {st : St} {fn : Func} {g d : Nat} {r : D} {σ' : Sto} {l : List ResultVar} (ns : List Nm) (hl : fn.results = l.toArray)
    (h : SomeP (resD E.P st l) fun ds => SomeP (obsOf st.σ ns 1) fun ren => apart ns ∧ σ' = newSto g d ren ∧ Co ((resV ds).sub (·.sub (renD g d ren))) r) : retQ E fn g d r σ' .ret st := by
  obtain ⟨ds, h1, h⟩ := h.elim
  obtain ⟨ren, h2, h3, rfl, h5⟩ := h.elim
  exact ends_new hl h1 ren (fun e he => ⟨(obsOf_get h2 e he).1, (obsOf_get h2 e he).2.2.2⟩) (obsOf_ne h3 h2) h5

theorem Co.of_eq {d d' : D} (h : d = d') : Co d d' := h ▸ Co.refl d

theorem wrapB (x : Int) (h1 : 0 ≤ x) (h2 : x < 256) : IntKind.u8.wrap x = x := by
  simp only [IntKind.wrap, IntKind.bits, IntKind.signed, Bool.false_and, Bool.false_eq_true, if_false]
  have e : (2 : Int) ^ 8 = 256 := by decide
  rw [e]
  omega

theorem takeM {α : Type} (f : α → D) {l : List α} {k : Nat} (h : k < l.length) : (l.take k).map f ++ [f l[k]] = (l.take (k + 1)).map f := by
  rw [List.take_add_one, List.getElem?_eq_getElem h, List.map_append]; rfl

theorem sub_encTy (f : D → D) (t : Ty) : (encTy t).sub f = .agg [f (.val (.string t.name)), f (.sl false (t.args.map encTy)), f (.val (.int .i64 t.pos))] := by rw [encTy_agg]; rfl

attribute [go_sem] mapObOf fmapD undef Int.toNat_natCast Int.natCast_nonneg obsOf notIn apart not_false_eq_true List.size_toArray boxOf rowsOf cellsOf arrOf okRows_iff okRows_nil' sub_encTy List.map_append List.length_append List.take_length

end Go.Ab

namespace Go.Ab
open Go Go.RowKit

theorem Vs.toVals {G : Gh} {w : World} {vs : Array Value} {l : List Value} (h : Vs G w vs (l.map .val)) : vs = l.toArray := by
  apply Array.ext_getElem?
  intro i
  obtain ⟨h1, h2⟩ := h
  simp only [List.length_map] at h1
  simp only [List.getElem?_toArray]
  by_cases hi : i < l.length
  · have hv : vs[i]? = some vs[i] := by simp [h1, hi]
    rw [hv, List.getElem?_eq_getElem hi]
    have := h2 i vs[i] (.val l[i]) hv (by simp [hi])
    rw [V.of_val this]
  · rw [List.getElem?_eq_none (by omega), Array.getElem?_eq_none (by omega)]

theorem acalls_grown {E : Ctx} {f : FuncId} {l : List Value} {v : Value} {g d : Nat} (hcall : ∀ xs w, (callFunc f xs).run E.P w = .ok (.enter f xs) w)
    (h : ∀ w0, E.A w0 → ∀ w, Below w0.heap.size w0 w → Calls E.P f l.toArray w fun e w' => e = .returned v ∧ ∃ k os, w' = Sort.grow (w.drewN k) os) : ACalls E f (l.map .val) [] g d (.val v) [] where
  call := hcall
  run w0 hA G w vs hw hvs ho hfr := by
    rw [Vs.toVals hvs]
    refine (h w0 hA w hw.below).mono ?_
    rintro e w' ⟨rfl, k, os, rfl⟩
    have hheap : (Sort.grow (w.drewN k) os).heap = w.heap ++ os := rfl
    have hsz : w.heap.size ≤ (Sort.grow (w.drewN k) os).heap.size := by rw [hheap, Array.size_append]; omega
    have hb : ∀ b, b < w.heap.size → (Sort.grow (w.drewN k) os).heap[b]? = w.heap[b]? := fun b hb => by rw [hheap, Array.getElem?_append_left hb]
    refine ⟨v, G, rfl, ⟨⟨?_, ?_, ?_, ?_, ?_⟩, hw.old, fun b hb => Nat.lt_of_lt_of_le (hw.lt b hb) hsz, fun n v hn => ⟨(hw.nm n v hn).1, fun b hb => ⟨((hw.nm n v hn).2 b hb).1, Nat.lt_of_lt_of_le ((hw.nm n v hn).2 b hb).2 hsz⟩⟩⟩, .val v, ⟨fun n o hn => by simp [get] at hn, fun n m o o' v v' b hn => by simp [get] at hn⟩,
      ⟨hsz, fun b hb' _ => hb b hb', fun _ h => h, fun _ h => .inl h, fun _ _ h => h, fun _ _ h _ => h, Nat.le_refl _, fun _ h => .inr h, fun _ h => .inl h, rfl⟩⟩
    · exact hw.below.os
    · exact hw.below.tape
    · exact hw.below.output
    · exact Nat.le_trans hw.below.size hsz
    · exact fun b hb' => (hb b (Nat.lt_of_lt_of_le hb' hw.below.size)).trans (hw.below.block b hb')

theorem tab_keeps {P : Program} {w0 w : World} {n : String} {k : IntKind} {zs : List Int} (h : Lib.TabIs P w0 n k zs) (hb : Below w0.heap.size w0 w) : Lib.TabIs P w n k zs := by
  unfold Lib.TabIs World.var? at h ⊢
  cases hg : P.globalNamed n with
  | none => simp [hg] at h
  | some g =>
    simp only [hg, Option.bind_some] at h ⊢
    have hlt : g < w0.heap.size := by
      rcases Nat.lt_or_ge g w0.heap.size with h' | h'
      · exact h'
      · simp [Array.getElem?_eq_none h'] at h
    rw [hb.block g hlt]
    exact h


/-- Rows that denote no more. -/
theorem Co.sl {x x' : Bool} {rows rows' : List D} (hx : x' = true → x = true) (hl : rows.length = rows'.length) (h : ∀ (i : Nat) r r', rows[i]? = some r → rows'[i]? = some r' → CoL r.cells r'.cells) : Co (.sl x rows) (.sl x' rows') := by
  intro G w v hv
  cases hv with
  | nilsl =>
    have : rows' = [] := List.eq_nil_of_length_eq_zero hl.symm
    subst this
    exact .nilsl _
  | esl a =>
    have : rows' = [] := List.eq_nil_of_length_eq_zero hl.symm
    subst this
    exact .esl a _
  | sl X h1 h2 h3 h4 h5 h6 h7 =>
    have get : ∀ (i : Nat) r', rows'[i]? = some r' → ∃ r, rows[i]? = some r ∧ CoL r.cells r'.cells := fun i r' hr => by
      have hi : i < rows.length := by rw [hl]; exact (List.getElem?_eq_some_iff.1 hr).1
      exact ⟨rows[i], by simp [hi], h i _ _ (by simp [hi]) hr⟩
    rename_i b off n cap k
    refine .sl (k := k) X (h1.trans hl) (fun e => h2 (hx e)) h3 h4 (fun i r' hr => ?_) (fun i r' j d' hr hd => ?_) (fun i r' j d' hr hd => ?_)
    · obtain ⟨r, hr1, hc⟩ := get i r' hr
      rw [← hc.spec.1]; exact h5 i r hr1
    · obtain ⟨r, hr1, hc⟩ := get i r' hr
      obtain ⟨d, hd1, _⟩ := hc.spec.2 j d' hd
      exact h6 i r j d hr1 hd1
    · obtain ⟨r, hr1, hc⟩ := get i r' hr
      obtain ⟨d, hd1, hco⟩ := hc.spec.2 j d' hd
      exact hco _ _ _ (h7 i r j d hr1 hd1)

theorem Co.map {α : Type} {x x' : Bool} {f f' : α → D} (l : List α) (hx : x' = true → x = true) (h : ∀ a ∈ l, CoL (f a).cells (f' a).cells) : Co (.sl x (l.map f)) (.sl x' (l.map f')) := by
  refine Co.sl hx (by simp) fun i r r' hr hr' => ?_
  rw [List.getElem?_map] at hr hr'
  cases hl : l[i]? with
  | none => rw [hl] at hr; cases hr
  | some a =>
    rw [hl] at hr hr'
    cases hr; cases hr'
    exact h a (List.mem_of_getElem? hl)

section
variable {E : Ctx} {N : Nat} {st : St} {Q : Exit → St → Prop}
/-- A variable is seen more loosely. -/
theorem awp_co {c : Code} (t : Nat) (d' : D) (h : SomeP (lk st.env t) fun d => Co d d' ∧ AWp E N c Q { env := (t, d') :: st.env, σ := st.σ }) : AWp E N c Q st := by
  obtain ⟨d, h1, h2, h3⟩ := h.elim
  refine Sees.awp fun w0 _ G w a hr => ⟨G, ⟨(t, d') :: st.env, st.σ⟩, ⟨hr.wf, fun u x hu => ?_, hr.objs, hr.defers⟩, .refl _ _ _ _, h3⟩
  simp only [lk] at hu
  split at hu
  · rename_i e
    subst e
    cases hu
    exact ⟨(hr.env _ _ h1).1, h2 _ _ _ (hr.env _ _ h1).2⟩
  · exact hr.env u x hu
end

theorem set_mapIdx {α β : Type} (F : Nat → Nat → α → β) (l : List α) (k : Nat) (v : β) (hv : ∀ a, l[k]? = some a → v = F (k + 1) k a) (hF : ∀ i a, i ≠ k → F k i a = F (k + 1) i a) :
    (l.mapIdx (F k)).set k v = l.mapIdx (F (k + 1)) := by
  apply List.ext_getElem?
  intro i
  rw [List.getElem?_set]
  simp only [List.length_mapIdx, List.getElem?_mapIdx]
  split
  · rename_i e
    subst e
    split
    · rename_i hlt
      simp [hlt, hv l[k] (by simp [hlt])]
    · rename_i hlt
      simp [List.getElem?_eq_none (show l.length ≤ k by omega)]
  · rename_i e
    cases hl : l[i]? with
    | none => rfl
    | some a => simp [hF i a (Ne.symm e)]

theorem getMI {α β : Type} (f : Nat → α → β) (l : List α) (k : Nat) (h : k < l.length) : (l.mapIdx f)[k]? = some (f k l[k]) := by simp [h]

attribute [go_sem] List.length_mapIdx


/-- What a call hands back may be seen otherwise. -/
theorem ACalls.sees {E : Ctx} {f : FuncId} {args : List D} {σ σ' σ2 : Sto} {g d : Nat} {r r2 : D} (h : ACalls E f args σ g d r σ') (hs : Sees E ⟨[(0, r)], σ'⟩ fun st => lk st.env 0 = some r2 ∧ ∀ p ∈ σ2, get st.σ p.1 = some p.2) : ACalls E f args σ g d r2 σ2 where
  call := h.call
  run w0 hA G w vs hw hvs ho hfr := by
    refine (h.run w0 hA G w vs hw hvs ho hfr).mono ?_
    rintro e w' ⟨v, G', rfl, k1, k2, k3, k4⟩
    have henv : ∀ t x, lk [(0, r)] t = some x → t < (#[v] : Array Value).size ∧ V G' w' ((#[v] : Array Value).getD t undef) x := by
      intro t x hx
      simp only [lk] at hx
      split at hx
      · rename_i e
        subst e
        cases hx
        exact ⟨by simp, by simpa using k2⟩
      · cases hx
    obtain ⟨G2, st2, hr2, hst2, hl, hsub⟩ := hs w0 hA G' w' { tmps := #[v], defers := [] } ⟨k1, henv, k3, .nil _ _⟩
    have hsub' : ∀ n o, get σ2 n = some o → get st2.σ n = some o := fun n o hn => hsub _ (mem_of_get hn)
    refine ⟨v, G2, rfl, hr2.wf, by simpa using (hr2.env 0 r2 hl).2, hr2.objs.sub hsub', (k4.trans (hst2.weaken fun _ _ h => h.elim)).trans (Step.drop hsub')⟩

theorem sees_done {E : Ctx} {st : St} {K : St → Prop} (h : K st) : Sees E st K := Sees.of h

theorem Co.tup {cs cs' : List D} (h : CoL cs cs') : Co (.tup cs) (.tup cs') := fun G w v hv => by
  cases hv with
  | tup h1 h2 =>
    refine .tup (h1.trans h.spec.1) fun i c d hc hd => ?_
    obtain ⟨d0, hd0, hco⟩ := h.spec.2 i d hd
    exact hco _ _ _ (h2 i c d0 hc hd0)

/-- A call that hands back a new row without an element. -/
theorem acalls_row {E : Ctx} {f : FuncId} {l : List Value} {t : TypeId} {k g d : Nat} (hcall : ∀ xs w, (callFunc f xs).run E.P w = .ok (.enter f xs) w)
    (h : ∀ w0, E.A w0 → ∀ w, Below w0.heap.size w0 w → Calls E.P f l.toArray w fun e w' => ∃ v, e = .returned v ∧ w.grownBy w' none ∧
      (v = .slice none 0 0 ∨ ∃ cap cur, v = .slice (some ⟨w.heap.size, 0, none⟩) 0 cap ∧ w'.heap[w.heap.size]? = some (.cells cur t (0, 0)) ∧ cap ≤ maxLen ∧ cur.size = cap * k)) :
    ACalls E f (l.map .val) [] g d (.own ⟨g, d, 1⟩ 0) [(⟨g, d, 1⟩, .arr t k [])] where
  call := hcall
  run w0 hA G w vs hw hvs ho hfr := by
    rw [Vs.toVals hvs]
    refine (h w0 hA w hw.below).mono ?_
    rintro e w' ⟨v, rfl, hgr, hv⟩
    have hob : OV w0 (G.upd ⟨g, d, 1⟩ v) w' v (.arr t k []) := by
      refine ⟨[], ⟨by simp, ?_⟩, fun i r h => by simp at h⟩
      rcases hv with rfl | ⟨cap, cur, rfl, h1, h2, h3⟩
      · exact .inl ⟨rfl, rfl⟩
      · exact .inr ⟨_, cap, cur, rfl, hw.below.size, h1, Nat.zero_le _, h2, h3, by simp⟩
    have hblk : ∀ b, blk v = some b → w.heap.size ≤ b ∧ b < w'.heap.size := by
      intro b hb
      rcases hv with rfl | ⟨cap, cur, rfl, h1, h2, h3⟩
      · simp [blk] at hb
      · simp only [blk, Option.some.injEq] at hb
        subst hb
        exact ⟨Nat.le_refl _, (Array.getElem?_eq_some_iff.1 h1).1⟩
    obtain ⟨q1, q2, q3⟩ := new_obj hw ho (hfr.2 1) hfr.1 hgr hblk hob
    have he : Kp.or (single ⟨g, d, 1⟩ (.arr t k [])) (get []) = get [(⟨g, d, 1⟩, .arr t k [])] := by rw [← get_single, ← get_append]; rfl
    rw [he] at q2 q3
    refine ⟨v, _, rfl, q1, ?_, q2, q3.weaken fun n _ hn => by subst hn; exact ⟨rfl, rfl⟩⟩
    have hρ : (G.upd ⟨g, d, 1⟩ v).ρ ⟨g, d, 1⟩ = some v := by simp [Gh.upd]
    rcases hv with rfl | ⟨cap, cur, rfl, h1, h2, h3⟩
    · exact .own hρ
    · exact .own hρ

theorem Co.one {x : Bool} {r r' : D} (h : CoL r.cells r'.cells) : Co (.sl x [r]) (.sl false [r']) :=
  Co.sl (fun e => by cases e) rfl (fun i a a' ha ha' => by
    cases i with
    | zero => cases ha; cases ha'; exact h
    | succ i => cases ha)

theorem okRows_map {α : Type} (k : Nat) (f : α → D) (l : List α) (h : ∀ a, (f a).cells.length = k ∧ (f a).cells.all D.one = true) : okRows k (l.map f) := fun r hr => by
  obtain ⟨a, _, rfl⟩ := List.mem_map.1 hr
  exact h a

end Go.Ab

namespace Go.Ab
open Go Go.RowKit

/-! # What the arguments denote, off their reading -/

/-- What is known at the start: all that lies there is frozen. -/
def G0 (w : World) : Gh := ⟨fun b => b < w.heap.size, fun _ => none, 1, 0⟩

theorem wf0 (w : World) : WF w (G0 w) w where
  below := Below.refl _ _
  old := fun _ h => h
  lt := fun _ h => h
  nm := fun n v h => by cases h

theorem objs0 (w : World) : Objs w (G0 w) w (get []) where
  ob := fun n o h => by cases h
  ne := fun n m o o' v v' b h => by cases h

/-- The cells from a place on denote these. -/
def Seg (w : World) (cs : List Value) (off : Nat) (ds : List D) : Prop := ∀ (i : Nat) d, ds[i]? = some d → ∃ c, cs[off + i]? = some c ∧ V (G0 w) w c d

theorem Seg.nil (w : World) (cs : List Value) (off : Nat) : Seg w cs off [] := fun i d h => by simp at h
theorem Seg.app {w : World} {cs : List Value} {off m : Nat} {ds ds' : List D} (h : Seg w cs off ds) (h' : Seg w cs m ds') (hm : m = off + ds.length) : Seg w cs off (ds ++ ds') := fun i d hd => by
  subst hm
  by_cases hi : i < ds.length
  · rw [List.getElem?_append_left hi] at hd
    exact h i d hd
  · rw [List.getElem?_append_right (by omega)] at hd
    obtain ⟨c, hc, hv⟩ := h' _ _ hd
    exact ⟨c, by rw [← hc]; congr 1; omega, hv⟩

variable {H : Type} {enc : TypeId × Value → H} {P : Program} {w : World}

/-- What reads as this type denotes one of these. -/
def Opens {α : Type} (enc : TypeId × Value → H) (P : Program) (w : World) (t : TypeId) (c : α → List D) (ok : α → Prop) (n : Nat) : Prop :=
  ∀ cs x, DataW.trod enc P w 0 (fun _ => true) true n t cs = some x → ∃ a, ok a ∧ cs.length = (c a).length ∧ Seg w cs 0 (c a)

theorem one_seg {v : Value} {d : D} (h : V (G0 w) w v d) : Seg w [v] 0 [d] := fun i d' hd => by
  cases i with
  | zero => cases hd; exact ⟨v, rfl, h⟩
  | succ i => simp at hd

theorem opens_str {t : TypeId} (ht : P.underlying t = some .string) (n : Nat) : Opens enc P w t (fun s : Str => [.val (.string s)]) (fun s => s.size ≤ 9223372036854775807) n := by
  intro cs x h
  obtain ⟨s, rfl, _, hs⟩ := DataW.trod_string ht h
  exact ⟨s, by unfold maxLen at hs; omega, rfl, one_seg (.val _)⟩

theorem opens_int {t : TypeId} (ht : P.underlying t = some (.int .i64)) (n : Nat) : Opens enc P w t (fun i : Int => [.val (.int .i64 i)]) (fun i => -9223372036854775808 ≤ i ∧ i ≤ 9223372036854775807) n := by
  intro cs x h
  obtain ⟨m, rfl, _, hw⟩ := DataW.trod_int ht h
  simp [Lit.wf, IntKind.min, IntKind.max, IntKind.signed, IntKind.bits] at hw
  exact ⟨m, ⟨by omega, by omega⟩, rfl, one_seg (.val _)⟩

theorem opens_bool {t : TypeId} (ht : P.underlying t = some .bool) (n : Nat) : Opens enc P w t (fun b : Bool => [.val (.bool b)]) (fun _ => True) n := by
  intro cs x h
  obtain ⟨b, rfl, _⟩ := DataW.trod_bool ht h
  exact ⟨b, trivial, rfl, one_seg (.val _)⟩

theorem exists_list {α : Type} {p : Nat → α → Prop} : ∀ n : Nat, (∀ i, i < n → ∃ a, p i a) → ∃ l : List α, l.length = n ∧ ∀ i (a : α), l[i]? = some a → p i a
  | 0, _ => ⟨[], rfl, fun i a h => by simp at h⟩
  | n + 1, h => by
    obtain ⟨l, hl, hp⟩ := exists_list n fun i hi => h i (by omega)
    obtain ⟨a, ha⟩ := h n (by omega)
    refine ⟨l ++ [a], by simp [hl], fun i b hb => ?_⟩
    by_cases hi : i < l.length
    · rw [List.getElem?_append_left hi] at hb
      exact hp i b hb
    · rw [List.getElem?_append_right (by omega)] at hb
      have : i - l.length = 0 := by
        have := (List.getElem?_eq_some_iff.1 hb).1
        simp at this
        omega
      rw [this] at hb
      cases hb
      have : i = n := by omega
      subst this
      exact ha

theorem cells?_some {base : Nat} {a : Addr} {n : Nat} {l : List Value} (h : w.cells? base a n = some l) : l.length = n ∧ ∀ j, j < n → w.cell? (a.add j) = l[j]? := by
  unfold World.cells? at h
  split at h
  · refine ⟨by simpa using Lib.mapM_length h, fun j hj => ?_⟩
    obtain ⟨b, hb, hf⟩ := Lib.mapM_at h j j (by simp [hj])
    rw [hf, hb]
  · cases h

theorem cell?_spot {a : Addr} {v : Value} (h : w.cell? a = some v) : a.spot = none ∧ a.block < w.heap.size := by
  unfold World.cell? at h
  split at h
  · rename_i c t f hh
    split at h
    · cases h
    · rename_i hs
      exact ⟨by cases he : a.spot with | none => rfl | some _ => rw [he] at hs; simp at hs, (Array.getElem?_eq_some_iff.1 hh).1⟩
  · cases h

theorem opens_sl {α : Type} {t e : TypeId} {k : Nat} {f : α → D} {ok : α → Prop} {n : Nat} (ht : P.underlying t = some (.slice e)) (hk : P.cellsOf e = k) (hk0 : 0 < k) (hlen : ∀ a, (f a).cells.length = k)
    (he : Opens enc P w e (fun a => (f a).cells) ok n) :
    Opens enc P w t (fun l : List α => [.sl false (l.map f)]) (fun l => l.length ≤ 9223372036854775807 ∧ ∀ a ∈ l, ok a) (n + 1) := by
  intro cs x h
  rcases DataW.trod_slice ht h with ⟨rfl, rfl⟩ | ⟨a, len, cap, elems, rest, m, hm, rfl, rfl, _, hlc, hcap, hel, hget, hrest, _⟩
  · exact ⟨[], ⟨by simp, by simp⟩, rfl, one_seg (.nilsl _)⟩
  · obtain rfl : n = m := by omega
    rw [hk] at hget hrest
    have row : ∀ i, i < len → ∃ b, ok b ∧ ∀ (j : Nat) d, (f b).cells[j]? = some d → ∃ c, w.cell? ((a.add (i * k)).add j) = some c ∧ V (G0 w) w c d := by
      intro i hi
      have h1 := hget i hi
      rw [List.getElem?_eq_getElem (by omega)] at h1
      obtain ⟨l, hl, hd⟩ := Option.bind_eq_some_iff.1 h1
      obtain ⟨hl1, hl2⟩ := cells?_some hl
      obtain ⟨b, hb, hlb, hseg⟩ := he l _ hd
      refine ⟨b, hb, fun j d hd => ?_⟩
      obtain ⟨c, hc, hv⟩ := hseg j d hd
      have hj : j < k := by rw [← hlen b]; exact (List.getElem?_eq_some_iff.1 hd).1
      exact ⟨c, by rw [hl2 j hj]; simpa using hc, hv⟩
    obtain ⟨l, hll, hlp⟩ := exists_list len row
    have hok : l.length ≤ 9223372036854775807 ∧ ∀ b ∈ l, ok b := by
      refine ⟨by unfold maxLen at hcap; omega, fun b hb => ?_⟩
      obtain ⟨i, hi, rfl⟩ := List.mem_iff_getElem.1 hb
      exact (hlp i _ (by simp [hi])).1
    refine ⟨l, hok, rfl, one_seg ?_⟩
    by_cases hc0 : cap = 0
    · obtain rfl : len = 0 := by omega
      subst hc0
      have : l = [] := List.eq_nil_of_length_eq_zero hll
      subst this
      exact .esl a false
    · -- the first cell is there
      have first : ∃ v, w.cell? a = some v := by
        have hcells : ∃ q, (w.cells? 0 (a.add (0 * k)) k) = some q := by
          by_cases hl0 : 0 < len
          · have h1 := hget 0 hl0
            rw [List.getElem?_eq_getElem (by omega)] at h1
            obtain ⟨q, hq, _⟩ := Option.bind_eq_some_iff.1 h1
            exact ⟨q, hq⟩
          · obtain ⟨hr1, hr2⟩ := hrest rfl
            have h1 := hr2 0 (by omega)
            rw [List.getElem?_eq_getElem (by omega)] at h1
            obtain ⟨q, hq, _⟩ := Option.bind_eq_some_iff.1 h1
            have : len + 0 = 0 := by omega
            rw [this] at hq
            exact ⟨q, hq⟩
        obtain ⟨q, hq⟩ := hcells
        obtain ⟨hl1, hl2⟩ := cells?_some hq
        have h0 := hl2 0 hk0
        rw [Nat.zero_mul, show (a.add 0).add 0 = a from rfl, List.getElem?_eq_getElem (by omega)] at h0
        exact ⟨_, h0⟩
      obtain ⟨v, hv⟩ := first
      obtain ⟨hs, hb⟩ := cell?_spot hv
      obtain ⟨b, off, spot⟩ := a
      simp only at hs hb
      subst hs
      have hadd : ∀ i j : Nat, ((⟨b, off, none⟩ : Addr).add (i * k)).add j = ⟨b, off + (i * k + j), none⟩ := fun i j => by
        rw [Addr.add_lit, Addr.add_lit, Nat.add_assoc]
      refine .sl (k := k) (fun i j => (w.cell? ⟨b, off + (i * k + j), none⟩).getD .nilFunc) (by simp [hll]) (fun h => by cases h) hlc hb (fun i r hr => ?_) (fun i r j d hr hd => ?_) (fun i r j d hr hd => ?_)
      · obtain ⟨y, _, rfl⟩ := Option.map_eq_some_iff.1 (by simpa using hr)
        exact hlen y
      · obtain ⟨y, hy, rfl⟩ := Option.map_eq_some_iff.1 (by simpa using hr)
        obtain ⟨c, hc, _⟩ := (hlp i y hy).2 j d hd
        rw [hadd] at hc
        simp [hc]
      · obtain ⟨y, hy, rfl⟩ := Option.map_eq_some_iff.1 (by simpa using hr)
        obtain ⟨c, hc, hV⟩ := (hlp i y hy).2 j d hd
        rw [hadd] at hc
        simpa [hc] using hV

/-- A field of a struct. -/
theorem open_field {α : Type} {t : TypeId} {fs : Array Field} {cs : List Value} {n : Nat} {x : DataW H × List MemPlace} (ht : P.underlying t = some (.struct fs)) (h : DataW.trod enc P w 0 (fun _ => true) true (n + 1) t cs = some x)
    {c : α → List D} {ok : α → Prop} (i : Nat) {f : Field} (hf : fs[i]? = some f) (ho : Opens enc P w f.type c ok n) : ∃ a, ok a ∧ Seg w cs f.offset (c a) := by
  obtain ⟨xs, m, hm, _, _, hl, hg⟩ := DataW.trod_struct ht h
  obtain rfl : n = m := by omega
  have hi : i < xs.length := by
    have := (Array.getElem?_eq_some_iff.1 hf).1
    omega
  have h1 := hg i f hf
  rw [List.getElem?_eq_getElem hi] at h1
  obtain ⟨a, ha, _, hs⟩ := ho _ _ h1
  refine ⟨a, ha, fun j d hd => ?_⟩
  obtain ⟨v, hv, hV⟩ := hs j d hd
  refine ⟨v, ?_, hV⟩
  rw [Nat.zero_add, List.getElem?_take] at hv
  split at hv
  · rwa [List.getElem?_drop] at hv
  · cases hv

theorem struct_len {t : TypeId} {fs : Array Field} {cs : List Value} {n : Nat} {x : DataW H × List MemPlace} (ht : P.underlying t = some (.struct fs)) (h : DataW.trod enc P w 0 (fun _ => true) true (n + 1) t cs = some x) : cs.length = P.cellsOf t := by
  obtain ⟨xs, m, hm, _, hl, _, hg⟩ := DataW.trod_struct ht h
  exact hl

theorem Opens.zero {α : Type} {t : TypeId} {c : α → List D} {ok : α → Prop} : Opens enc P w t c ok 0 := fun cs x h => by simp [DataW.trod] at h

theorem opens_slb {α : Type} {t e : TypeId} {k : Nat} {f : α → D} {ok : α → Prop} {n : Nat} (ht : P.underlying t = some (.slice e)) (hk : P.cellsOf e = k) (hk0 : 0 < k) (hlen : ∀ a, (f a).cells.length = k)
    (he : ∀ m, m < n → Opens enc P w e (fun a => (f a).cells) ok m) : Opens enc P w t (fun l : List α => [.sl false (l.map f)]) (fun l => l.length ≤ 9223372036854775807 ∧ ∀ a ∈ l, ok a) n := by
  cases n with
  | zero => exact Opens.zero
  | succ n => exact opens_sl ht hk hk0 hlen (he n (Nat.lt_succ_self n))

def isSt (P : Program) (t : TypeId) : Bool := match P.underlying t with
  | some (.struct _) => true
  | _ => false
def fieldAt (P : Program) (t : TypeId) (i : Nat) : Option (TypeId × Nat) := match P.underlying t with
  | some (.struct fs) => (fs[i]?).map fun f => (f.type, f.offset)
  | _ => none

theorem open_at {α : Type} {t ft : TypeId} {off : Nat} {cs : List Value} {n : Nat} {x : DataW H × List MemPlace} {c : α → List D} {ok : α → Prop} (i : Nat) (hf : fieldAt P t i = some (ft, off))
    (h : DataW.trod enc P w 0 (fun _ => true) true (n + 1) t cs = some x) (ho : Opens enc P w ft c ok n) : ∃ a, ok a ∧ Seg w cs off (c a) := by
  unfold fieldAt at hf
  split at hf
  · rename_i fs hs
    obtain ⟨f, h1, h2⟩ := Option.map_eq_some_iff.1 hf
    cases h2
    exact open_field hs h i h1 ho
  · cases hf

theorem open_len {t : TypeId} {cs : List Value} {n : Nat} {x : DataW H × List MemPlace} (hs : isSt P t = true) (h : DataW.trod enc P w 0 (fun _ => true) true (n + 1) t cs = some x) : cs.length = P.cellsOf t := by
  unfold isSt at hs
  split at hs
  · rename_i fs ht
    exact struct_len ht h
  · cases hs

/-! ## Whole values -/

theorem open_agg {α : Type} {t : TypeId} {c : α → List D} {ok : α → Prop} {b0 : Nat} {v : Value} {d : DataW H} {ps : List MemPlace} (hs : isSt P t = true) (ho : ∀ n, Opens enc P w t c ok n)
    (hval : Value.okWide P w .any b0 t v) (h : DataW.Trod enc P w 0 (fun _ => true) true t v d ps) : ∃ a, ok a ∧ V (G0 w) w v (.agg (c a)) := by
  obtain ⟨n, hn⟩ := h
  obtain ⟨fs, ht⟩ : ∃ fs, P.underlying t = some (.struct fs) := by
    unfold isSt at hs
    split at hs
    · rename_i fs h
      exact ⟨fs, h⟩
    · cases hs
  unfold Value.okWide at hval
  rw [ht] at hval
  obtain ⟨cs, rfl, _, _⟩ := hval
  obtain ⟨a, ha, hl, hs⟩ := ho n _ _ hn
  have hl' : cs.size = (c a).length := by simpa [Value.cells] using hl
  refine ⟨a, ha, .agg hl' fun i x d hx hd => ?_⟩
  obtain ⟨y, hy, hV⟩ := hs i d hd
  have : cs[i]? = some y := by simpa [Value.cells] using hy
  rw [hx] at this
  cases this
  exact hV

theorem open_cell {α : Type} {t : TypeId} {f : α → D} {ok : α → Prop} {b0 : Nat} {v : Value} {d : DataW H} {ps : List MemPlace} (ht : ∀ cs, ¬ Value.okWide P w .any b0 t (.agg cs)) (ho : ∀ n, Opens enc P w t (fun a => [f a]) ok n)
    (hval : Value.okWide P w .any b0 t v) (h : DataW.Trod enc P w 0 (fun _ => true) true t v d ps) : ∃ a, ok a ∧ V (G0 w) w v (f a) := by
  obtain ⟨n, hn⟩ := h
  have hc : v.cells = #[v] := by
    cases v with
    | agg cs => exact absurd hval (ht cs)
    | _ => rfl
  rw [hc] at hn
  obtain ⟨a, ha, _, hs⟩ := ho n _ _ hn
  obtain ⟨y, hy, hV⟩ := hs 0 (f a) rfl
  cases hy
  exact ⟨a, ha, hV⟩

theorem not_agg_slice {t e : TypeId} {b0 : Nat} (ht : P.underlying t = some (.slice e)) (cs : Array Value) : ¬ Value.okWide P w .any b0 t (.agg cs) := by
  unfold Value.okWide Cell.okWide Cell.ok
  simp [ht]
theorem not_agg_string {t : TypeId} {b0 : Nat} (ht : P.underlying t = some .string) (cs : Array Value) : ¬ Value.okWide P w .any b0 t (.agg cs) := by
  unfold Value.okWide Cell.okWide Cell.ok
  simp [ht]
theorem not_agg_int {t : TypeId} {k : IntKind} {b0 : Nat} (ht : P.underlying t = some (.int k)) (cs : Array Value) : ¬ Value.okWide P w .any b0 t (.agg cs) := by
  unfold Value.okWide Cell.okWide Cell.ok
  simp [ht]
theorem not_agg_bool {t : TypeId} {b0 : Nat} (ht : P.underlying t = some .bool) (cs : Array Value) : ¬ Value.okWide P w .any b0 t (.agg cs) := by
  unfold Value.okWide Cell.okWide Cell.ok
  simp [ht]

/-! ## From a contract to the form of the rows -/

/-- A law that answers true: what the rows ask of it. -/
theorem law_calls {E : Ctx} {f : FuncId} {l : List D} {W : World} (h : ∀ g d, ACalls E f l [] g d (dB true) []) (hA : E.A W) {vs : Array Value} (hv : Vs (G0 W) W vs l) :
    Calls E.P f vs W fun e W' => e = .returned (.bool true) ∧ Below W.heap.size W W' := by
  refine ((h 0 0).run W hA (G0 W) W vs (wf0 W) hv (objs0 W) ⟨Nat.zero_lt_one, fun _ => rfl⟩).mono ?_
  rintro e w' ⟨v, G', rfl, hw, hV, _, _⟩
  rw [V.of_val hV]
  exact ⟨rfl, hw.below⟩

end Go.Ab

namespace Go.Ab
open Go Go.RowKit

/-! # From a law's contract to its row -/

variable {H : Type} {enc : TypeId × Value → H} {P : Program} {W W' : World}

theorem trodAll_carry (hl : laidOutB P = true) (hb : Below W.heap.size W W') : ∀ {ts : List TypeId} {vs : List Value} {ds : List (DataW H)} {ps : List MemPlace},
    (∀ t ∈ ts, P.readableRec t = true ∧ t < P.types.size) → DataW.TrodAll enc P W 0 (fun _ => true) true ts vs ds ps → (∀ x ∈ ps, x.block < W.heap.size) → DataW.TrodAll enc P W' 0 (fun b => decide (b < W.heap.size)) true ts vs ds ps
  | [], [], [], _, _, h, _ => h
  | t :: ts, v :: vs, d :: ds, ps, ht, h, hlt => by
    obtain ⟨p, q, h1, h2, rfl⟩ := h
    have ht1 := ht t List.mem_cons_self
    exact ⟨p, q, Below.trod hl ht1.1 ht1.2 h1 hb (fun x hx => hlt x (List.mem_append_left _ hx)),
      trodAll_carry hl hb (fun u hu => ht u (List.mem_cons_of_mem _ hu)) h2 (fun x hx => hlt x (List.mem_append_right _ hx)), rfl⟩
  | [], [], _ :: _, _, _, h, _ => absurd h (by intro h; cases h)
  | [], _ :: _, _, _, _, h, _ => absurd h (by intro h; cases h)
  | _ :: _, [], _, _, _, h, _ => absurd h (by intro h; cases h)
  | _ :: _, _ :: _, [], _, _, h, _ => absurd h (by intro h; cases h)

def readsB (P : Program) (ts : List TypeId) : Bool := ts.all fun t => P.readableRec t && decide (t < P.types.size)

theorem lifted {E : Ctx} {C : Checked} {os : Os} {f : FuncId} {fn : Func} {s : ChangeSpec} {apart fresh handsOn : Bool} {laid : List (String × DataW Unit)} {tb : TypeId} (hE : E.P = C.prog)
    (hA : ∀ W, laidMetH C.prog laid W → E.A W) (own : ownKnob C.prog.godebug = none) (started : os.Started) (noInit : C.prog.inits.idxOf? f = none) (hfn : C.prog.funcs[f]? = some fn)
    (witness : ∃ (w : World) (tape : Tape) (i : Input), w.os = os ∧ (w.forCall tape i).Shaped C.prog ∧ i.vars = [] ∧ Input.okWide C.prog (w.forCall tape i) .any w.heap.size f i ∧
      ((s.pre enc C.prog fn [] apart (w.forCall tape i).memory i.args ∧ laidMetH C.prog laid (w.forCall tape i).memory) ∧ sizedMet enc C.prog fn (OpenSpec.ofChange s) apart (w.forCall tape i).memory i.args) ∧ ({} : Assume).holds C.prog (lone (Frame.enter C.prog f i.args .normal) [] (w.forCall tape i)))
    (hvars : s.vars = []) (hres : fn.resultTypes = #[tb]) (htb : C.prog.underlying tb = some .bool) (hlo : laidOutB C.prog = true) (hrd : readsB C.prog fn.params.toList = true)
    (hopen : ∀ (W : World) (base : Nat) (args : Array Value) (ds : List (DataW H)) (p : List MemPlace), (∀ (j : Nat) t v, fn.params[j]? = some t → args[j]? = some v → Value.okWide C.prog W .any base t v) →
      DataW.TrodAll enc C.prog W 0 (fun _ => true) true fn.params.toList args.toList ds p →
      (∃ l, Vs (G0 W) W args l ∧ ∀ g d, ACalls E f l [] g d (dB true) []) ∧ s.fn H ds = { results := [.lit (.bool true)], args := ds }) :
    ReturnsInHanded {} C os f .any (fun w args => (s.pre enc C.prog fn [] apart w args ∧ laidMetH C.prog laid w) ∧ sizedMet enc C.prog fn (OpenSpec.ofChange s) apart w args)
      (s.post enc C.prog fn apart fresh handsOn false) := by
  refine returnsInHanded_of_change_and (C := C) (X := fun w _ => laidMetH C.prog laid w) (fun _ _ _ hh h => h.of_heap hh) own started noInit hfn witness ?_
  intro W base args ds gs before hval hW _ _ hL _
  have hW' := hW
  obtain ⟨p, q, hT, hV, rfl, hfz, hnd⟩ := hW
  rw [hvars] at hV
  obtain ⟨rfl, rfl⟩ : gs = [] ∧ q = [] := by
    cases gs with
    | nil => exact ⟨rfl, hV⟩
    | cons g r => exact absurd hV (by intro h; cases h)
  obtain ⟨⟨l, hvs, hl⟩, hs⟩ := hopen W base args ds p hval hT
  have hc := law_calls hl (hA W hL) hvs
  rw [hE] at hc
  refine hc.mono fun e W' ⟨he, hb⟩ => ⟨_, he, ds, [], _, [], p, [], hW', ?_, ?_, ?_, hb.frame _, fun h => by cases h⟩
  · rw [List.append_nil, hs, hres]
    exact ⟨[], [], shut_bool htb true, rfl, rfl⟩
  · rw [List.append_nil, hs]
    refine trodAll_carry hlo hb (fun t ht => ?_) hT (fun x hx => by simpa using hW'.lt x (List.mem_append_left _ hx))
    have := List.all_eq_true.1 hrd t ht
    simpa using this
  · rw [List.append_nil, hs, hvars]
    rfl

theorem Vs.cons {G : Gh} {w : World} {v : Value} {vs : Array Value} {d : D} {ds : List D} (h : V G w v d) (hs : Vs G w vs ds) : Vs G w (#[v] ++ vs) (d :: ds) :=
  Vs.append (a := #[v]) (x := [d]) ⟨rfl, fun i c d' hc hd => by
    cases i with
    | zero => cases hc; cases hd; exact h
    | succ i => simp at hd⟩ hs
theorem Vs.nil (G : Gh) (w : World) : Vs G w #[] [] := ⟨rfl, fun i c d hc hd => by simp at hd⟩
theorem Vs.one1 {G : Gh} {w : World} {v : Value} {d : D} (h : V G w v d) : Vs G w #[v] [d] := by simpa using Vs.cons h (Vs.nil G w)
theorem Vs.two {G : Gh} {w : World} {v v' : Value} {d d' : D} (h : V G w v d) (h' : V G w v' d') : Vs G w #[v, v'] [d, d'] := by simpa using Vs.cons h (Vs.one1 h')
theorem Vs.three {G : Gh} {w : World} {v v' v'' : Value} {d d' d'' : D} (h : V G w v d) (h' : V G w v' d') (h'' : V G w v'' d'') : Vs G w #[v, v', v''] [d, d', d''] := by simpa using Vs.cons h (Vs.two h' h'')
theorem Vs.four {G : Gh} {w : World} {v v' v'' v3 : Value} {d d' d'' d3 : D} (h : V G w v d) (h' : V G w v' d') (h'' : V G w v'' d'') (h3 : V G w v3 d3) : Vs G w #[v, v', v'', v3] [d, d', d'', d3] := by simpa using Vs.cons h (Vs.three h' h'' h3)

end Go.Ab

namespace Go.Ab
open Go
/-! ## Zero values -/
def zType : Value := .agg #[.string ByteArray.empty, .slice none 0 0, .int .i64 0]
def zSig : Value := .agg #[.string ByteArray.empty, .slice none 0 0, .slice none 0 0, .string ByteArray.empty, .slice none 0 0, .int .i64 0, .int .i64 0]
end Go.Ab
