/- A part of the proof, under no conditions of its own: ZAI. -/
import Derived.Test.YtjahdmpghjhgjaaGreatDoorZAG
import Derived.Test.YtjahdmpghjhgjaaGreatDoorZAH
import Derived.Test.YtjahdmpghjhgjaaGreatDoorZAF
import Derived.Lib.ItoaNum
import Derived.Test.YtjahdmpghjhgjaaGreatDoorProg
namespace Go.Ab
open Go Go.RowKit Go.Proofs

/-- The cells are just these values. -/
def okV {β : Type} (encB : β → D) (vs : List Value) (b : β) : Prop := (encB b).cells = vs.map .val

theorem V.of_okV {β : Type} {encB : β → D} {cs : β → List D} (hag : ∀ b, encB b = .agg (cs b)) {G : Gh} {w : World} {vs : List Value} {b : β} (h : okV encB vs b) : V G w (.agg vs.toArray) (encB b) := by
  unfold okV at h
  rw [hag] at h ⊢
  have h' : cs b = vs.map .val := h
  rw [h']
  refine .agg (by simp) fun i c d hc hd => ?_
  simp only [List.getElem?_map, List.getElem?_toArray] at hc hd
  rw [hc] at hd
  cases hd
  exact .val _

theorem grow_of {w w' : World} (h : Bel w.heap.size w w') : ∃ q os', w' = Sort.grow (w.drewN q) os' := by
  refine ⟨w'.drawn - w.drawn, w'.heap.extract w.heap.size w'.heap.size, ?_⟩
  have hd := h.drawn
  have e1 : w.drawn + (w'.drawn - w.drawn) = w'.drawn := by omega
  have e2 : w.heap ++ w'.heap.extract w.heap.size w'.heap.size = w'.heap := by
    apply Array.ext
    · rw [Array.size_append, Array.size_extract]
      have := h.size
      omega
    · intro i h1 h2
      by_cases hi : i < w.heap.size
      · rw [Array.getElem_append_left hi]
        have := h.block i hi
        rw [Array.getElem?_eq_getElem hi, Array.getElem?_eq_getElem h2] at this
        exact (Option.some.inj this).symm
      · rw [Array.getElem_append_right (by omega), Array.getElem_extract]
        congr 1
        omega
  have h1 := h.os
  have h2 := h.tape
  have h3 := h.output
  cases w' with
  | mk heap tape drawn os output =>
    simp only at h1 h2 h3 e1 e2
    subst h1 h2 h3
    show _ = World.mk _ _ _ _ _
    simp only [World.drewN, e1]
    congr 1
    exact e2.symm

theorem cmpAt_of {E : Ctx} {β : Type} {k : Nat} {encB : β → D} {cs : β → List D} (hag : ∀ b, encB b = .agg (cs b)) {cmp : FuncId} {cf : β → β → Int} (h : ∀ x y g d, ACalls E cmp [encB x, encB y] [] g d (.val (.int .i64 (cf x y))) []) : CmpAt E.P E.A cmp β k (okV encB) cf := by
  intro x y w hA
  have hw := wf0 w
  have ho := objs0 w
  have hvs : Vs (G0 w) w #[.agg x.vs.toArray, .agg y.vs.toArray] [encB x.tag, encB y.tag] := by
    refine ⟨rfl, fun i c d hc hd => ?_⟩
    match i, hc, hd with
    | 0, hc, hd => cases hc; cases hd; exact V.of_okV hag x.fit
    | 1, hc, hd => cases hc; cases hd; exact V.of_okV hag y.fit
    | i + 2, hc, hd => simp at hd
  refine ((h x.tag y.tag 0 0).run w hA _ w _ hw hvs ho ⟨Nat.lt_succ_self 0, fun _ => rfl⟩).mono ?_
  rintro e w' ⟨v, G', rfl, q1, q2, _, _⟩
  exact ⟨by rw [V.of_val q2], grow_of q1.below⟩
end Go.Ab

namespace Go.Ab
open Go Go.RowKit

structure EC (E : Ctx) (f : FuncId) (args : List D) (σ : Sto) (g d : Nat) (S : D → Sto → Prop) : Prop where
  call : ∀ xs w, (callFunc f xs).run E.P w = .ok (.enter f xs) w
  run : ∀ w0, E.A w0 → ∀ G w (vs : Array Value), WF w0 G w → Vs G w vs args → Objs w0 G w (get σ) → (g < G.top ∧ ∀ j, G.ρ ⟨g, d, j⟩ = none) →
    Calls E.P f vs w fun e w' => ∃ v G' r τ', e = .returned v ∧ S r τ' ∧ WF w0 G' w' ∧ V G' w' v r ∧ Objs w0 G' w' (get τ') ∧ Step (rsv g (some d)) G w (get σ) G' w' (get τ')

section
variable {E : Ctx} {g : Nat}
/-- What such a walk ends in. -/
def retE (E : Ctx) (fn : Func) (g d : Nat) (S : D → Sto → Prop) : Exit → St → Prop
  | .normal, st => ∃ r τ', S r τ' ∧ Ends E fn g d r τ' st
  | .ret, st => ∃ r τ', S r τ' ∧ Ends E fn g d r τ' st
  | _, _ => False

theorem ecalls_of_awp {f : FuncId} {fn : Func} {c : Code} {N d : Nat} {args : List D} {σ : Sto} {S : D → Sto → Prop} (hcall : ∀ xs w, (callFunc f xs).run E.P w = .ok (.enter f xs) w) (hf : E.P.funcs[f]? = some fn) (hb : fn.body = some c) (hN : fn.ntmps = N) (hargs : args.length ≤ N)
    (h : AWp E N c (retE E fn g d S) ⟨argsEnv 0 args, σ⟩) : EC E f args σ g d S := by
  refine ⟨hcall, fun w0 hA G w vs hw hvs ho hfr => ?_⟩
  refine callsIn_wide.1 (callsIn_of_wp_marks (F := Fr none) (n := 0) hf hb (fr_fn _ _) ?_)
  have hwB : WF w0 { G with base := w.heap.size } w := hw.rebase _
  have hoB : Objs w0 { G with base := w.heap.size } w (get σ) := ho.rebase _
  have hsz : (vs ++ Array.replicate (fn.ntmps - vs.size) undef).size = N := by
    have := hvs.1
    simp
    omega
  refine wpIn_mono (h w0 hA { G with base := w.heap.size } w _ hsz ⟨hwB, fun t x ht => ?_, hoB, .nil (Nat.le_refl _)⟩ none (fun _ => rfl)) ?_
  · obtain ⟨_, h2⟩ := lk_argsEnv 0 args t x ht
    simp only [Nat.sub_zero] at h2
    have hlt : t < vs.size := by
      have := (List.getElem?_eq_some_iff.1 h2).1
      have := hvs.1
      omega
    refine ⟨by rw [hsz]; have := hvs.1; omega, ?_⟩
    rw [Array.getD_eq_getD_getElem?, Array.getElem?_append_left hlt]
    simp only [hlt, getElem?_pos, Option.getD_some]
    exact (hvs.2 t _ x (by simp [hlt]) h2).rebase _
  · rintro en a' w' ⟨G', st', h1, h2, h3, h4⟩
    have key : (∃ r τ', S r τ' ∧ Ends E fn g d r τ' st') → LeavesInM (Fr none) 0 E.P fn a'.tmps (fun e w'' => ∃ v G'' r τ', e = .returned v ∧ S r τ' ∧ WF w0 G'' w'' ∧ V G'' w'' v r ∧ Objs w0 G'' w'' (get τ') ∧ Step (rsv g (some d)) G w (get σ) G'' w'' (get τ')) a'.defers .returning w' := by
      rintro ⟨r, τ', hpost, he⟩
      obtain ⟨hbs, Ds, hds, hnd, hD⟩ := h2.defers
      have hb3 := h3.base
      have hb4 : G'.base = w.heap.size := hb3
      have go : ∀ (Ds : List Nat) (w' : World) (a2 : Act), a2.tmps = a'.tmps → Ds.Nodup → (∀ b ∈ Ds, G'.F b ∧ G'.base ≤ b ∧ w'.heap[b]? = some (.deferred (some []))) → Rel w0 G' w' { a2 with defers := [] } st' → Step no { G with base := w.heap.size } w (get σ) G' w' (get st'.σ) →
          LeavesInM (Fr none) 0 E.P fn a'.tmps (fun e w'' => ∃ v G'' r τ', e = .returned v ∧ S r τ' ∧ WF w0 G'' w'' ∧ V G'' w'' v r ∧ Objs w0 G'' w'' (get τ') ∧ Step (rsv g (some d)) G w (get σ) G'' w'' (get τ')) (Ds.map (fun b => { target := .collected b, args := #[] })) .returning w' := by
        intro Ds
        induction Ds with
        | nil =>
          intro w' a2 hat _ _ hr2 hs2
          obtain ⟨v, G'', k1, k2, k3, k4, k5⟩ := he w0 hA G' w' { a2 with defers := [] } hr2 ⟨Nat.lt_of_lt_of_le hfr.1 hs2.top, fun j => hs2.fresh hfr.1 (hfr.2 j) fun h => h⟩
          have hst := (hs2.weaken (R' := rsv g (some d)) fun _ _ h => h.elim).trans k5
          have k1' : (results fn a'.tmps).run E.P w' = .ok v w' := by rw [← hat]; exact k1
          exact ⟨v, k1', v, { G'' with base := G.base }, r, τ', rfl, hpost, k2.rebase _, k3.rebase _, k4.rebase _, Step.rebase w.heap.size hst⟩
        | cons D0 Ds ih =>
          intro w' a2 hat hnd hD hr2 hs2
          obtain ⟨m1, m2, m3⟩ := hD D0 List.mem_cons_self
          obtain ⟨n1, n2⟩ := List.nodup_cons.1 hnd
          have hsh : Shut w' (w'.putObj D0 (.deferred none)) D0 := ⟨m3, rfl⟩
          have hbase : w.heap.size ≤ D0 := hb4 ▸ m2
          obtain ⟨q1, q2⟩ := shut_all hsh (Nat.le_trans hw.below.size hbase) m1 hr2.wf hr2.objs
          refine ⟨by simp, .inl ⟨D0, _, rfl, run_takeDeferred m3, ?_⟩⟩
          refine ih _ a2 hat n2 (fun b hb' => ?_) ⟨q1, fun t x ht => ⟨(hr2.env t x ht).1, (hr2.env t x ht).2.shut hsh⟩, q2, .nil (by have := hr2.defers.1; simpa [World.putObj] using this)⟩ (shut_step hsh hs2 hbase)
          obtain ⟨x1, x2, x3⟩ := hD b (List.mem_cons_of_mem _ hb')
          exact ⟨x1, x2, (hsh.heap fun e => n1 (e ▸ hb')).trans x3⟩
      rw [hds]
      exact go Ds w' a' rfl hnd hD ⟨h2.wf, h2.env, h2.objs, .nil hbs⟩ h3
    cases en with
    | normal => exact key h4
    | ret => exact key h4
    | _ => exact h4.elim
end


section
variable {E : Ctx} {N : Nat} {ops : List Oper} {g : Nat} {Q : St → Prop} {st : St} {o : Oper} {rest : List Oper} {ds : List (Option Tmp)}

/-- A call with one of several outcomes; it is handed no objects. -/
theorem aops_ecall {f : FuncId} {args args' : List D} {d : Nat} {S : D → Sto → Prop} (hds : ops.map (·.dst) = ds) (hw : wantL ds st.env o.guard = some true) (hd : o.dst = some d) (hc : calleeD o (ev E st.env) = some (f, args)) (h : EC E f args' [] g d S) (hco : CoL args args')
    (k : ∀ r τ', S r τ' → (∀ p ∈ st.σ, get τ' p.1 = none) → AOps E N ops g Q rest { env := (d, r) :: st.env, σ := st.σ ++ τ' }) : AOps E N ops g Q (o :: rest) st := by
  intro w0 hA G w a hN hr hg hnd hfr Q' hQ rr
  simp only [wpListIn]
  rw [if_pos (wantD_sound hr (by rw [← wantL_eq hds]; exact hw))]
  have hf := (hfr o (by simp) d hd).2
  obtain ⟨vs, hrun, hvs⟩ := call_run (e := ev E st.env) hc (fun x _ => hr.ev hA x) h.call
  have hvs' := Vs.co hvs hco
  have hown : ∀ p ∈ st.σ, get ([] : Sto) p.1 = none := fun p _ => rfl
  have e0 : get (st.σ ++ []) = get st.σ := by rw [List.append_nil]
  have ho0 : Objs w0 G w (get (st.σ ++ [])) := by rw [e0]; exact hr.objs
  have hrun2 := h.run w0 hA G w vs hr.wf hvs' (hr.objs.sub fun n o hn => by cases hn) ⟨hg, hf⟩
  refine op_enter hrun (Calls.mono hrun2 ?_) rr
  rintro en w' ⟨v, G', r, τ', rfl, hp, hw', hv, ho', hs⟩
  obtain ⟨h1, h2, h3⟩ := tail_frame hr.wf ho0 hown hs ho'
  rw [e0] at h3
  have hr' := hr.put' (v := r) (dst := o.dst) (σ := st.σ ++ τ') (h3.weaken (R' := rsv g o.dst) fun n _ hn => by rw [hd]; exact hn) rfl hw' h2 hv (fun d hd => by rw [hN]; exact (hfr o List.mem_cons_self d hd).1)
  have e1 : st.env' o.dst r (st.σ ++ τ') = { env := (d, r) :: st.env, σ := st.σ ++ τ' } := by rw [hd]; rfl
  rw [e1] at hr'
  have hnd' : (rest.filterMap (·.dst)).Nodup ∧ d ∉ rest.filterMap (·.dst) := by
    simp only [List.filterMap_cons, hd, List.nodup_cons] at hnd
    exact ⟨hnd.2, hnd.1⟩
  refine k r τ' hp h1 w0 hA G' w' _ (by rw [put_size, hN]) hr' (Nat.lt_of_lt_of_le hg h3.top) hnd'.1 (fun o' ho' d' hd' => ⟨(hfr o' (by simp [ho']) d' hd').1, fun j => h3.fresh hg ((hfr o' (by simp [ho']) d' hd').2 j) fun ⟨_, he⟩ => ?_⟩) Q' (fun G2 st2 a2 w2 k1 k2 k3 k4 => hQ G2 st2 a2 w2 k1 k2 ?_ k4) rr
  · cases he
    exact hnd'.2 (List.mem_filterMap.2 ⟨o', ho', hd'⟩)
  · exact (h3.weaken fun n _ hn => hn.1).trans k3
end

end Go.Ab

namespace Go.Ab
open Go Go.RowKit

theorem acalls_mclone {E : Ctx} {f : FuncId} (hcall : ∀ xs w, (callFunc f xs).run E.P w = .ok (.enter f xs) w)
    (hC : ∀ b es clock w, w.heap[b]? = some (.map es clock) → Calls E.P f #[.map (some b)] w fun e w' => e = .returned (.map (some w.heap.size)) ∧ w' = w.alloc (.map es clock)) (ks : KS) (es : List (Value × D)) (g d : Nat) :
    ACalls E f [.fmap ks es] [] g d (.mref ⟨g, d, 1⟩) [(⟨g, d, 1⟩, .map ks es)] where
  call := hcall
  run w0 hA G w vs hw hvs ho hfr := by
    obtain ⟨l⟩ := vs
    obtain ⟨h1, h2⟩ := hvs
    have h1' : l.length = 1 := h1
    match l, h1' with
    | [x], _ =>
      have hx := h2 0 x (.fmap ks es) rfl rfl
      cases hx with
      | fmap ms clock hF hh hborn k1 k2 k3 k4 =>
        refine (hC _ ms clock w hh).mono ?_
        rintro e w' ⟨rfl, rfl⟩
        have hnew := heap_alloc_n w (.map ms clock)
        have hsz : (w.alloc (.map ms clock)).heap.size = w.heap.size + 1 := World.size_alloc _ _
        obtain ⟨q1, q2, q3⟩ := new_obj hw ho (hfr.2 1) hfr.1 (v := .map (some w.heap.size)) (ob := .map ks es) (gr_alloc w _) (fun b hb => by simp [blk] at hb; omega)
          ⟨w.heap.size, ms, clock, rfl, hnew, hborn, k1, k2, k3, fun i m e' hm he => (k4 i m e' hm he).upd (hfr.2 1) fun b hF => heap_alloc_o w _ b (hw.lt b hF)⟩
        have he : Kp.or (single ⟨g, d, 1⟩ (.map ks es)) (get []) = get [(⟨g, d, 1⟩, .map ks es)] := by rw [← get_single, ← get_append]; rfl
        rw [he] at q2 q3
        exact ⟨_, _, rfl, q1, .mref (by simp [Gh.upd]), q2, q3.weaken fun n _ hn => by subst hn; exact ⟨rfl, rfl⟩⟩
theorem acalls_same {E : Ctx} {f : FuncId} {l : List Value} {v : Value} {g d : Nat} (hcall : ∀ xs w, (callFunc f xs).run E.P w = .ok (.enter f xs) w)
    (h : ∀ w, Calls E.P f l.toArray w fun e w' => e = .returned v ∧ w' = w) : ACalls E f (l.map .val) [] g d (.val v) [] :=
  acalls_grown hcall fun _ _ w _ => (h w).mono fun _ _ ⟨h1, h2⟩ => ⟨h1, 0, #[], by rw [h2, Sort.grow_empty]; rfl⟩
end Go.Ab

namespace Go.Proofs.T
open Go Go.Ab Go.RowKit

noncomputable def E : Ctx := { P := Tryz.prog, A := fun w => Lib.TabIs Tryz.prog w "internal/strconv.uint64pow10" .u64 Lib.pow10Tab, glob := fun _ => .any, hglob := fun _ _ _ _ _ _ => .any _, mixed := by kernel_rfl }
@[go_sem] theorem E_P : E.P = Tryz.prog := rfl
@[go_sem] theorem rnd_P : E.rnd.P = Tryz.prog := rfl
theorem E_keep : ∀ w0 w, E.A w0 → RowKit.Below w0.heap.size w0 w → E.A w := fun _ _ h hb => tab_keeps h hb
@[go_sem] theorem sz0 : szOf Tryz.prog 0 = some 1 := by kernel_rfl
@[go_sem] theorem ag0 : aggOf Tryz.prog 0 = some false := by kernel_rfl
@[go_sem] theorem es0 : elemS Tryz.prog 0 = none := by kernel_rfl
@[go_sem] theorem ha0 : hasT Tryz.prog 0 = true := by kernel_rfl
@[go_sem] theorem ic0 : isIfc Tryz.prog 0 = false := by kernel_rfl
@[go_sem] theorem by0 : bytesOf Tryz.prog 0 = some 0 := by kernel_rfl
@[go_sem] theorem sz2 : szOf Tryz.prog 2 = some 1 := by kernel_rfl
@[go_sem] theorem ag2 : aggOf Tryz.prog 2 = some false := by kernel_rfl
@[go_sem] theorem es2 : elemS Tryz.prog 2 = none := by kernel_rfl
@[go_sem] theorem ha2 : hasT Tryz.prog 2 = true := by kernel_rfl
@[go_sem] theorem ic2 : isIfc Tryz.prog 2 = false := by kernel_rfl
@[go_sem] theorem io2 : intOfT Tryz.prog 2 = some .i64 := by kernel_rfl
@[go_sem] theorem by2 : bytesOf Tryz.prog 2 = some 8 := by kernel_rfl
@[go_sem] theorem ze2 : zeroOf Tryz.prog 2 = some (.int .i64 0) := by kernel_rfl
@[go_sem] theorem sz3 : szOf Tryz.prog 3 = some 1 := by kernel_rfl
@[go_sem] theorem ag3 : aggOf Tryz.prog 3 = some false := by kernel_rfl
@[go_sem] theorem es3 : elemS Tryz.prog 3 = none := by kernel_rfl
@[go_sem] theorem ha3 : hasT Tryz.prog 3 = true := by kernel_rfl
@[go_sem] theorem ic3 : isIfc Tryz.prog 3 = false := by kernel_rfl
@[go_sem] theorem io3 : intOfT Tryz.prog 3 = some .i64 := by kernel_rfl
@[go_sem] theorem by3 : bytesOf Tryz.prog 3 = some 8 := by kernel_rfl
@[go_sem] theorem ze3 : zeroOf Tryz.prog 3 = some (.int .i64 0) := by kernel_rfl
@[go_sem] theorem sz4 : szOf Tryz.prog 4 = some 1 := by kernel_rfl
@[go_sem] theorem ag4 : aggOf Tryz.prog 4 = some false := by kernel_rfl
@[go_sem] theorem es4 : elemS Tryz.prog 4 = none := by kernel_rfl
@[go_sem] theorem ha4 : hasT Tryz.prog 4 = true := by kernel_rfl
@[go_sem] theorem ic4 : isIfc Tryz.prog 4 = false := by kernel_rfl
@[go_sem] theorem by4 : bytesOf Tryz.prog 4 = some 1 := by kernel_rfl
@[go_sem] theorem ib4 : isBoolT Tryz.prog 4 = true := by kernel_rfl
@[go_sem] theorem ze4 : zeroOf Tryz.prog 4 = some (.bool false) := by kernel_rfl
@[go_sem] theorem sz5 : szOf Tryz.prog 5 = some 1 := by kernel_rfl
@[go_sem] theorem ag5 : aggOf Tryz.prog 5 = some false := by kernel_rfl
@[go_sem] theorem es5 : elemS Tryz.prog 5 = none := by kernel_rfl
@[go_sem] theorem ha5 : hasT Tryz.prog 5 = true := by kernel_rfl
@[go_sem] theorem ic5 : isIfc Tryz.prog 5 = false := by kernel_rfl
@[go_sem] theorem io5 : intOfT Tryz.prog 5 = some .u8 := by kernel_rfl
@[go_sem] theorem by5 : bytesOf Tryz.prog 5 = some 1 := by kernel_rfl
@[go_sem] theorem ze5 : zeroOf Tryz.prog 5 = some (.int .u8 0) := by kernel_rfl
@[go_sem] theorem sz6 : szOf Tryz.prog 6 = some 1 := by kernel_rfl
@[go_sem] theorem ag6 : aggOf Tryz.prog 6 = some false := by kernel_rfl
@[go_sem] theorem es6 : elemS Tryz.prog 6 = none := by kernel_rfl
@[go_sem] theorem ha6 : hasT Tryz.prog 6 = true := by kernel_rfl
@[go_sem] theorem ic6 : isIfc Tryz.prog 6 = false := by kernel_rfl
@[go_sem] theorem io6 : intOfT Tryz.prog 6 = some .u8 := by kernel_rfl
@[go_sem] theorem by6 : bytesOf Tryz.prog 6 = some 1 := by kernel_rfl
@[go_sem] theorem ze6 : zeroOf Tryz.prog 6 = some (.int .u8 0) := by kernel_rfl
@[go_sem] theorem sz7 : szOf Tryz.prog 7 = some 4 := by kernel_rfl
@[go_sem] theorem ag7 : aggOf Tryz.prog 7 = some true := by kernel_rfl
@[go_sem] theorem fl7_0 : fldOf Tryz.prog 7 0 = some (0, 2) := by kernel_rfl
@[go_sem] theorem fl7_1 : fldOf Tryz.prog 7 1 = some (1, 3) := by kernel_rfl
@[go_sem] theorem fl7_2 : fldOf Tryz.prog 7 2 = some (2, 4) := by kernel_rfl
@[go_sem] theorem fl7_3 : fldOf Tryz.prog 7 3 = some (3, 6) := by kernel_rfl
@[go_sem] theorem es7 : elemS Tryz.prog 7 = none := by kernel_rfl
@[go_sem] theorem ha7 : hasT Tryz.prog 7 = true := by kernel_rfl
@[go_sem] theorem ic7 : isIfc Tryz.prog 7 = false := by kernel_rfl
@[go_sem] theorem pl7 : placesOf Tryz.prog 7 = some [(0, 1), (1, 1), (2, 1), (3, 1)] := by kernel_rfl
@[go_sem] theorem by7 : bytesOf Tryz.prog 7 = some 24 := by kernel_rfl
@[go_sem] theorem eg7 : egOf Tryz.prog 7 = false := by kernel_rfl
@[go_sem] theorem ks7 : KS.of Tryz.prog 7 = some (.agg [(.num .i64), (.num .i64), .boo, (.num .u8)]) := by kernel_rfl
@[go_sem] theorem ze7 : zeroOf Tryz.prog 7 = some (.agg #[(.int .i64 0), (.int .i64 0), (.bool false), (.int .u8 0)]) := by kernel_rfl
@[go_sem] theorem sz9 : szOf Tryz.prog 9 = some 1 := by kernel_rfl
@[go_sem] theorem ag9 : aggOf Tryz.prog 9 = some false := by kernel_rfl
@[go_sem] theorem es9 : elemS Tryz.prog 9 = none := by kernel_rfl
@[go_sem] theorem ha9 : hasT Tryz.prog 9 = true := by kernel_rfl
@[go_sem] theorem st9 : isStr Tryz.prog 9 = true := by kernel_rfl
@[go_sem] theorem ic9 : isIfc Tryz.prog 9 = false := by kernel_rfl
@[go_sem] theorem by9 : bytesOf Tryz.prog 9 = some 16 := by kernel_rfl
@[go_sem] theorem ze9 : zeroOf Tryz.prog 9 = some (.string ByteArray.empty) := by kernel_rfl
@[go_sem] theorem sz20 : szOf Tryz.prog 20 = some 1 := by kernel_rfl
@[go_sem] theorem ag20 : aggOf Tryz.prog 20 = some false := by kernel_rfl
@[go_sem] theorem es20 : elemS Tryz.prog 20 = none := by kernel_rfl
@[go_sem] theorem ha20 : hasT Tryz.prog 20 = true := by kernel_rfl
@[go_sem] theorem ic20 : isIfc Tryz.prog 20 = true := by kernel_rfl
@[go_sem] theorem by20 : bytesOf Tryz.prog 20 = some 16 := by kernel_rfl
@[go_sem] theorem ze20 : zeroOf Tryz.prog 20 = some .nilIface := by kernel_rfl
@[go_sem] theorem sz22 : szOf Tryz.prog 22 = some 1 := by kernel_rfl
@[go_sem] theorem ag22 : aggOf Tryz.prog 22 = some false := by kernel_rfl
@[go_sem] theorem es22 : elemS Tryz.prog 22 = some 42 := by kernel_rfl
@[go_sem] theorem ha22 : hasT Tryz.prog 22 = true := by kernel_rfl
@[go_sem] theorem ic22 : isIfc Tryz.prog 22 = false := by kernel_rfl
@[go_sem] theorem by22 : bytesOf Tryz.prog 22 = some 24 := by kernel_rfl
@[go_sem] theorem ze22 : zeroOf Tryz.prog 22 = some (.slice none 0 0) := by kernel_rfl
@[go_sem] theorem sz23 : szOf Tryz.prog 23 = some 1 := by kernel_rfl
@[go_sem] theorem ag23 : aggOf Tryz.prog 23 = some false := by kernel_rfl
@[go_sem] theorem es23 : elemS Tryz.prog 23 = some 25 := by kernel_rfl
@[go_sem] theorem ha23 : hasT Tryz.prog 23 = true := by kernel_rfl
@[go_sem] theorem ic23 : isIfc Tryz.prog 23 = false := by kernel_rfl
@[go_sem] theorem by23 : bytesOf Tryz.prog 23 = some 24 := by kernel_rfl
@[go_sem] theorem ze23 : zeroOf Tryz.prog 23 = some (.slice none 0 0) := by kernel_rfl
@[go_sem] theorem sz25 : szOf Tryz.prog 25 = some 3 := by kernel_rfl
@[go_sem] theorem ag25 : aggOf Tryz.prog 25 = some true := by kernel_rfl
@[go_sem] theorem fl25_0 : fldOf Tryz.prog 25 0 = some (0, 9) := by kernel_rfl
@[go_sem] theorem fl25_1 : fldOf Tryz.prog 25 1 = some (1, 23) := by kernel_rfl
@[go_sem] theorem fl25_2 : fldOf Tryz.prog 25 2 = some (2, 3) := by kernel_rfl
@[go_sem] theorem es25 : elemS Tryz.prog 25 = none := by kernel_rfl
@[go_sem] theorem ha25 : hasT Tryz.prog 25 = true := by kernel_rfl
@[go_sem] theorem ic25 : isIfc Tryz.prog 25 = false := by kernel_rfl
@[go_sem] theorem pl25 : placesOf Tryz.prog 25 = some [(0, 1), (1, 1), (2, 1)] := by kernel_rfl
@[go_sem] theorem by25 : bytesOf Tryz.prog 25 = some 48 := by kernel_rfl
@[go_sem] theorem ze25 : zeroOf Tryz.prog 25 = some (.agg #[(.string ByteArray.empty), (.slice none 0 0), (.int .i64 0)]) := by kernel_rfl
@[go_sem] theorem sz26 : szOf Tryz.prog 26 = some 1 := by kernel_rfl
@[go_sem] theorem ag26 : aggOf Tryz.prog 26 = some false := by kernel_rfl
@[go_sem] theorem es26 : elemS Tryz.prog 26 = some 28 := by kernel_rfl
@[go_sem] theorem ha26 : hasT Tryz.prog 26 = true := by kernel_rfl
@[go_sem] theorem ic26 : isIfc Tryz.prog 26 = false := by kernel_rfl
@[go_sem] theorem by26 : bytesOf Tryz.prog 26 = some 24 := by kernel_rfl
@[go_sem] theorem ze26 : zeroOf Tryz.prog 26 = some (.slice none 0 0) := by kernel_rfl
@[go_sem] theorem sz28 : szOf Tryz.prog 28 = some 8 := by kernel_rfl
@[go_sem] theorem ag28 : aggOf Tryz.prog 28 = some true := by kernel_rfl
@[go_sem] theorem fl28_0 : fldOf Tryz.prog 28 0 = some (0, 3) := by kernel_rfl
@[go_sem] theorem fl28_1 : fldOf Tryz.prog 28 1 = some (1, 9) := by kernel_rfl
@[go_sem] theorem fl28_2 : fldOf Tryz.prog 28 2 = some (2, 25) := by kernel_rfl
@[go_sem] theorem fl28_3 : fldOf Tryz.prog 28 3 = some (5, 23) := by kernel_rfl
@[go_sem] theorem fl28_4 : fldOf Tryz.prog 28 4 = some (6, 26) := by kernel_rfl
@[go_sem] theorem fl28_5 : fldOf Tryz.prog 28 5 = some (7, 3) := by kernel_rfl
@[go_sem] theorem es28 : elemS Tryz.prog 28 = none := by kernel_rfl
@[go_sem] theorem ha28 : hasT Tryz.prog 28 = true := by kernel_rfl
@[go_sem] theorem ic28 : isIfc Tryz.prog 28 = false := by kernel_rfl
@[go_sem] theorem pl28 : placesOf Tryz.prog 28 = some [(0, 1), (1, 1), (2, 3), (5, 1), (6, 1), (7, 1)] := by kernel_rfl
@[go_sem] theorem by28 : bytesOf Tryz.prog 28 = some 128 := by kernel_rfl
@[go_sem] theorem ze28 : zeroOf Tryz.prog 28 = some (.agg #[(.int .i64 0), (.string ByteArray.empty), (.string ByteArray.empty), (.slice none 0 0), (.int .i64 0), (.slice none 0 0), (.slice none 0 0), (.int .i64 0)]) := by kernel_rfl
@[go_sem] theorem sz30 : szOf Tryz.prog 30 = some 9 := by kernel_rfl
@[go_sem] theorem ag30 : aggOf Tryz.prog 30 = some true := by kernel_rfl
@[go_sem] theorem fl30_0 : fldOf Tryz.prog 30 0 = some (0, 22) := by kernel_rfl
@[go_sem] theorem fl30_1 : fldOf Tryz.prog 30 1 = some (1, 28) := by kernel_rfl
@[go_sem] theorem es30 : elemS Tryz.prog 30 = none := by kernel_rfl
@[go_sem] theorem ha30 : hasT Tryz.prog 30 = true := by kernel_rfl
@[go_sem] theorem ic30 : isIfc Tryz.prog 30 = false := by kernel_rfl
@[go_sem] theorem pl30 : placesOf Tryz.prog 30 = some [(0, 1), (1, 8)] := by kernel_rfl
@[go_sem] theorem by30 : bytesOf Tryz.prog 30 = some 152 := by kernel_rfl
@[go_sem] theorem ze30 : zeroOf Tryz.prog 30 = some (.agg #[(.slice none 0 0), (.int .i64 0), (.string ByteArray.empty), (.string ByteArray.empty), (.slice none 0 0), (.int .i64 0), (.slice none 0 0), (.slice none 0 0), (.int .i64 0)]) := by kernel_rfl
@[go_sem] theorem sz33 : szOf Tryz.prog 33 = some 1 := by kernel_rfl
@[go_sem] theorem ag33 : aggOf Tryz.prog 33 = some false := by kernel_rfl
@[go_sem] theorem es33 : elemS Tryz.prog 33 = some 65 := by kernel_rfl
@[go_sem] theorem ha33 : hasT Tryz.prog 33 = true := by kernel_rfl
@[go_sem] theorem ic33 : isIfc Tryz.prog 33 = false := by kernel_rfl
@[go_sem] theorem by33 : bytesOf Tryz.prog 33 = some 24 := by kernel_rfl
@[go_sem] theorem ze33 : zeroOf Tryz.prog 33 = some (.slice none 0 0) := by kernel_rfl
@[go_sem] theorem sz35 : szOf Tryz.prog 35 = some 1 := by kernel_rfl
@[go_sem] theorem ag35 : aggOf Tryz.prog 35 = some false := by kernel_rfl
@[go_sem] theorem es35 : elemS Tryz.prog 35 = some 68 := by kernel_rfl
@[go_sem] theorem ha35 : hasT Tryz.prog 35 = true := by kernel_rfl
@[go_sem] theorem ic35 : isIfc Tryz.prog 35 = false := by kernel_rfl
@[go_sem] theorem by35 : bytesOf Tryz.prog 35 = some 24 := by kernel_rfl
@[go_sem] theorem ze35 : zeroOf Tryz.prog 35 = some (.slice none 0 0) := by kernel_rfl
@[go_sem] theorem sz36 : szOf Tryz.prog 36 = some 1 := by kernel_rfl
@[go_sem] theorem ag36 : aggOf Tryz.prog 36 = some false := by kernel_rfl
@[go_sem] theorem es36 : elemS Tryz.prog 36 = some 109 := by kernel_rfl
@[go_sem] theorem ha36 : hasT Tryz.prog 36 = true := by kernel_rfl
@[go_sem] theorem ic36 : isIfc Tryz.prog 36 = false := by kernel_rfl
@[go_sem] theorem by36 : bytesOf Tryz.prog 36 = some 24 := by kernel_rfl
@[go_sem] theorem ze36 : zeroOf Tryz.prog 36 = some (.slice none 0 0) := by kernel_rfl
@[go_sem] theorem sz37 : szOf Tryz.prog 37 = some 1 := by kernel_rfl
@[go_sem] theorem ag37 : aggOf Tryz.prog 37 = some false := by kernel_rfl
@[go_sem] theorem es37 : elemS Tryz.prog 37 = some 40 := by kernel_rfl
@[go_sem] theorem ha37 : hasT Tryz.prog 37 = true := by kernel_rfl
@[go_sem] theorem ic37 : isIfc Tryz.prog 37 = false := by kernel_rfl
@[go_sem] theorem by37 : bytesOf Tryz.prog 37 = some 24 := by kernel_rfl
@[go_sem] theorem ze37 : zeroOf Tryz.prog 37 = some (.slice none 0 0) := by kernel_rfl
@[go_sem] theorem sz38 : szOf Tryz.prog 38 = some 1 := by kernel_rfl
@[go_sem] theorem ag38 : aggOf Tryz.prog 38 = some false := by kernel_rfl
@[go_sem] theorem es38 : elemS Tryz.prog 38 = some 9 := by kernel_rfl
@[go_sem] theorem ha38 : hasT Tryz.prog 38 = true := by kernel_rfl
@[go_sem] theorem ic38 : isIfc Tryz.prog 38 = false := by kernel_rfl
@[go_sem] theorem by38 : bytesOf Tryz.prog 38 = some 24 := by kernel_rfl
@[go_sem] theorem ze38 : zeroOf Tryz.prog 38 = some (.slice none 0 0) := by kernel_rfl
@[go_sem] theorem sz40 : szOf Tryz.prog 40 = some 7 := by kernel_rfl
@[go_sem] theorem ag40 : aggOf Tryz.prog 40 = some true := by kernel_rfl
@[go_sem] theorem fl40_0 : fldOf Tryz.prog 40 0 = some (0, 9) := by kernel_rfl
@[go_sem] theorem fl40_1 : fldOf Tryz.prog 40 1 = some (1, 35) := by kernel_rfl
@[go_sem] theorem fl40_2 : fldOf Tryz.prog 40 2 = some (2, 36) := by kernel_rfl
@[go_sem] theorem fl40_3 : fldOf Tryz.prog 40 3 = some (3, 25) := by kernel_rfl
@[go_sem] theorem fl40_4 : fldOf Tryz.prog 40 4 = some (6, 3) := by kernel_rfl
@[go_sem] theorem es40 : elemS Tryz.prog 40 = none := by kernel_rfl
@[go_sem] theorem ha40 : hasT Tryz.prog 40 = true := by kernel_rfl
@[go_sem] theorem ic40 : isIfc Tryz.prog 40 = false := by kernel_rfl
@[go_sem] theorem pl40 : placesOf Tryz.prog 40 = some [(0, 1), (1, 1), (2, 1), (3, 3), (6, 1)] := by kernel_rfl
@[go_sem] theorem by40 : bytesOf Tryz.prog 40 = some 120 := by kernel_rfl
@[go_sem] theorem ze40 : zeroOf Tryz.prog 40 = some (.agg #[(.string ByteArray.empty), (.slice none 0 0), (.slice none 0 0), (.string ByteArray.empty), (.slice none 0 0), (.int .i64 0), (.int .i64 0)]) := by kernel_rfl
@[go_sem] theorem sz42 : szOf Tryz.prog 42 = some 23 := by kernel_rfl
@[go_sem] theorem ag42 : aggOf Tryz.prog 42 = some true := by kernel_rfl
@[go_sem] theorem fl42_0 : fldOf Tryz.prog 42 0 = some (0, 3) := by kernel_rfl
@[go_sem] theorem fl42_1 : fldOf Tryz.prog 42 1 = some (1, 9) := by kernel_rfl
@[go_sem] theorem fl42_2 : fldOf Tryz.prog 42 2 = some (2, 35) := by kernel_rfl
@[go_sem] theorem fl42_3 : fldOf Tryz.prog 42 3 = some (3, 36) := by kernel_rfl
@[go_sem] theorem fl42_4 : fldOf Tryz.prog 42 4 = some (4, 37) := by kernel_rfl
@[go_sem] theorem fl42_5 : fldOf Tryz.prog 42 5 = some (5, 9) := by kernel_rfl
@[go_sem] theorem fl42_6 : fldOf Tryz.prog 42 6 = some (6, 38) := by kernel_rfl
@[go_sem] theorem fl42_7 : fldOf Tryz.prog 42 7 = some (7, 40) := by kernel_rfl
@[go_sem] theorem fl42_8 : fldOf Tryz.prog 42 8 = some (14, 28) := by kernel_rfl
@[go_sem] theorem fl42_9 : fldOf Tryz.prog 42 9 = some (22, 3) := by kernel_rfl
@[go_sem] theorem es42 : elemS Tryz.prog 42 = none := by kernel_rfl
@[go_sem] theorem ha42 : hasT Tryz.prog 42 = true := by kernel_rfl
@[go_sem] theorem ic42 : isIfc Tryz.prog 42 = false := by kernel_rfl
@[go_sem] theorem pl42 : placesOf Tryz.prog 42 = some [(0, 1), (1, 1), (2, 1), (3, 1), (4, 1), (5, 1), (6, 1), (7, 7), (14, 8), (22, 1)] := by kernel_rfl
@[go_sem] theorem by42 : bytesOf Tryz.prog 42 = some 392 := by kernel_rfl
@[go_sem] theorem ze42 : zeroOf Tryz.prog 42 = some (.agg #[(.int .i64 0), (.string ByteArray.empty), (.slice none 0 0), (.slice none 0 0), (.slice none 0 0), (.string ByteArray.empty), (.slice none 0 0), (.string ByteArray.empty), (.slice none 0 0), (.slice none 0 0), (.string ByteArray.empty), (.slice none 0 0), (.int .i64 0), (.int .i64 0), (.int .i64 0), (.string ByteArray.empty), (.string ByteArray.empty), (.slice none 0 0), (.int .i64 0), (.slice none 0 0), (.slice none 0 0), (.int .i64 0), (.int .i64 0)]) := by kernel_rfl
@[go_sem] theorem sz45 : szOf Tryz.prog 45 = some 1 := by kernel_rfl
@[go_sem] theorem ag45 : aggOf Tryz.prog 45 = some false := by kernel_rfl
@[go_sem] theorem es45 : elemS Tryz.prog 45 = some 70 := by kernel_rfl
@[go_sem] theorem ha45 : hasT Tryz.prog 45 = true := by kernel_rfl
@[go_sem] theorem ic45 : isIfc Tryz.prog 45 = false := by kernel_rfl
@[go_sem] theorem by45 : bytesOf Tryz.prog 45 = some 24 := by kernel_rfl
@[go_sem] theorem ze45 : zeroOf Tryz.prog 45 = some (.slice none 0 0) := by kernel_rfl
@[go_sem] theorem sz51 : szOf Tryz.prog 51 = some 3 := by kernel_rfl
@[go_sem] theorem ag51 : aggOf Tryz.prog 51 = some true := by kernel_rfl
@[go_sem] theorem fl51_0 : fldOf Tryz.prog 51 0 = some (0, 4) := by kernel_rfl
@[go_sem] theorem fl51_1 : fldOf Tryz.prog 51 1 = some (1, 9) := by kernel_rfl
@[go_sem] theorem fl51_2 : fldOf Tryz.prog 51 2 = some (2, 3) := by kernel_rfl
@[go_sem] theorem es51 : elemS Tryz.prog 51 = none := by kernel_rfl
@[go_sem] theorem ha51 : hasT Tryz.prog 51 = true := by kernel_rfl
@[go_sem] theorem ic51 : isIfc Tryz.prog 51 = false := by kernel_rfl
@[go_sem] theorem pl51 : placesOf Tryz.prog 51 = some [(0, 1), (1, 1), (2, 1)] := by kernel_rfl
@[go_sem] theorem by51 : bytesOf Tryz.prog 51 = some 32 := by kernel_rfl
@[go_sem] theorem eg51 : egOf Tryz.prog 51 = false := by kernel_rfl
@[go_sem] theorem ks51 : KS.of Tryz.prog 51 = some (.agg [.boo, .str, (.num .i64)]) := by kernel_rfl
@[go_sem] theorem ze51 : zeroOf Tryz.prog 51 = some (.agg #[(.bool false), (.string ByteArray.empty), (.int .i64 0)]) := by kernel_rfl
@[go_sem] theorem sz52 : szOf Tryz.prog 52 = some 1 := by kernel_rfl
@[go_sem] theorem ag52 : aggOf Tryz.prog 52 = some false := by kernel_rfl
@[go_sem] theorem es52 : elemS Tryz.prog 52 = some 55 := by kernel_rfl
@[go_sem] theorem ha52 : hasT Tryz.prog 52 = true := by kernel_rfl
@[go_sem] theorem ic52 : isIfc Tryz.prog 52 = false := by kernel_rfl
@[go_sem] theorem by52 : bytesOf Tryz.prog 52 = some 24 := by kernel_rfl
@[go_sem] theorem ze52 : zeroOf Tryz.prog 52 = some (.slice none 0 0) := by kernel_rfl
@[go_sem] theorem sz55 : szOf Tryz.prog 55 = some 3 := by kernel_rfl
@[go_sem] theorem ag55 : aggOf Tryz.prog 55 = some true := by kernel_rfl
@[go_sem] theorem fl55_0 : fldOf Tryz.prog 55 0 = some (0, 4) := by kernel_rfl
@[go_sem] theorem fl55_1 : fldOf Tryz.prog 55 1 = some (1, 9) := by kernel_rfl
@[go_sem] theorem fl55_2 : fldOf Tryz.prog 55 2 = some (2, 3) := by kernel_rfl
@[go_sem] theorem es55 : elemS Tryz.prog 55 = none := by kernel_rfl
@[go_sem] theorem ha55 : hasT Tryz.prog 55 = true := by kernel_rfl
@[go_sem] theorem ic55 : isIfc Tryz.prog 55 = false := by kernel_rfl
@[go_sem] theorem pl55 : placesOf Tryz.prog 55 = some [(0, 1), (1, 1), (2, 1)] := by kernel_rfl
@[go_sem] theorem by55 : bytesOf Tryz.prog 55 = some 32 := by kernel_rfl
@[go_sem] theorem eg55 : egOf Tryz.prog 55 = false := by kernel_rfl
@[go_sem] theorem ks55 : KS.of Tryz.prog 55 = some (.agg [.boo, .str, (.num .i64)]) := by kernel_rfl
@[go_sem] theorem ze55 : zeroOf Tryz.prog 55 = some (.agg #[(.bool false), (.string ByteArray.empty), (.int .i64 0)]) := by kernel_rfl
@[go_sem] theorem sz59 : szOf Tryz.prog 59 = some 1 := by kernel_rfl
@[go_sem] theorem ag59 : aggOf Tryz.prog 59 = some false := by kernel_rfl
@[go_sem] theorem es59 : elemS Tryz.prog 59 = none := by kernel_rfl
@[go_sem] theorem ha59 : hasT Tryz.prog 59 = true := by kernel_rfl
@[go_sem] theorem ic59 : isIfc Tryz.prog 59 = false := by kernel_rfl
@[go_sem] theorem by59 : bytesOf Tryz.prog 59 = some 8 := by kernel_rfl
@[go_sem] theorem ze59 : zeroOf Tryz.prog 59 = some .nilFunc := by kernel_rfl
@[go_sem] theorem sz65 : szOf Tryz.prog 65 = some 7 := by kernel_rfl
@[go_sem] theorem ag65 : aggOf Tryz.prog 65 = some true := by kernel_rfl
@[go_sem] theorem fl65_0 : fldOf Tryz.prog 65 0 = some (0, 51) := by kernel_rfl
@[go_sem] theorem fl65_1 : fldOf Tryz.prog 65 1 = some (3, 51) := by kernel_rfl
@[go_sem] theorem fl65_2 : fldOf Tryz.prog 65 2 = some (6, 4) := by kernel_rfl
@[go_sem] theorem es65 : elemS Tryz.prog 65 = none := by kernel_rfl
@[go_sem] theorem ha65 : hasT Tryz.prog 65 = true := by kernel_rfl
@[go_sem] theorem ic65 : isIfc Tryz.prog 65 = false := by kernel_rfl
@[go_sem] theorem pl65 : placesOf Tryz.prog 65 = some [(0, 3), (3, 3), (6, 1)] := by kernel_rfl
@[go_sem] theorem by65 : bytesOf Tryz.prog 65 = some 72 := by kernel_rfl
@[go_sem] theorem eg65 : egOf Tryz.prog 65 = false := by kernel_rfl
@[go_sem] theorem ks65 : KS.of Tryz.prog 65 = some (.agg [.boo, .str, (.num .i64), .boo, .str, (.num .i64), .boo]) := by kernel_rfl
@[go_sem] theorem ze65 : zeroOf Tryz.prog 65 = some (.agg #[(.bool false), (.string ByteArray.empty), (.int .i64 0), (.bool false), (.string ByteArray.empty), (.int .i64 0), (.bool false)]) := by kernel_rfl
@[go_sem] theorem sz68 : szOf Tryz.prog 68 = some 5 := by kernel_rfl
@[go_sem] theorem ag68 : aggOf Tryz.prog 68 = some true := by kernel_rfl
@[go_sem] theorem fl68_0 : fldOf Tryz.prog 68 0 = some (0, 9) := by kernel_rfl
@[go_sem] theorem fl68_1 : fldOf Tryz.prog 68 1 = some (1, 25) := by kernel_rfl
@[go_sem] theorem fl68_2 : fldOf Tryz.prog 68 2 = some (4, 3) := by kernel_rfl
@[go_sem] theorem es68 : elemS Tryz.prog 68 = none := by kernel_rfl
@[go_sem] theorem ha68 : hasT Tryz.prog 68 = true := by kernel_rfl
@[go_sem] theorem ic68 : isIfc Tryz.prog 68 = false := by kernel_rfl
@[go_sem] theorem pl68 : placesOf Tryz.prog 68 = some [(0, 1), (1, 3), (4, 1)] := by kernel_rfl
@[go_sem] theorem by68 : bytesOf Tryz.prog 68 = some 72 := by kernel_rfl
@[go_sem] theorem ze68 : zeroOf Tryz.prog 68 = some (.agg #[(.string ByteArray.empty), (.string ByteArray.empty), (.slice none 0 0), (.int .i64 0), (.int .i64 0)]) := by kernel_rfl
@[go_sem] theorem sz70 : szOf Tryz.prog 70 = some 7 := by kernel_rfl
@[go_sem] theorem ag70 : aggOf Tryz.prog 70 = some true := by kernel_rfl
@[go_sem] theorem fl70_0 : fldOf Tryz.prog 70 0 = some (0, 55) := by kernel_rfl
@[go_sem] theorem fl70_1 : fldOf Tryz.prog 70 1 = some (3, 55) := by kernel_rfl
@[go_sem] theorem fl70_2 : fldOf Tryz.prog 70 2 = some (6, 4) := by kernel_rfl
@[go_sem] theorem es70 : elemS Tryz.prog 70 = none := by kernel_rfl
@[go_sem] theorem ha70 : hasT Tryz.prog 70 = true := by kernel_rfl
@[go_sem] theorem ic70 : isIfc Tryz.prog 70 = false := by kernel_rfl
@[go_sem] theorem pl70 : placesOf Tryz.prog 70 = some [(0, 3), (3, 3), (6, 1)] := by kernel_rfl
@[go_sem] theorem by70 : bytesOf Tryz.prog 70 = some 72 := by kernel_rfl
@[go_sem] theorem eg70 : egOf Tryz.prog 70 = false := by kernel_rfl
@[go_sem] theorem ks70 : KS.of Tryz.prog 70 = some (.agg [.boo, .str, (.num .i64), .boo, .str, (.num .i64), .boo]) := by kernel_rfl
@[go_sem] theorem ze70 : zeroOf Tryz.prog 70 = some (.agg #[(.bool false), (.string ByteArray.empty), (.int .i64 0), (.bool false), (.string ByteArray.empty), (.int .i64 0), (.bool false)]) := by kernel_rfl
@[go_sem] theorem sz73 : szOf Tryz.prog 73 = some 1 := by kernel_rfl
@[go_sem] theorem ag73 : aggOf Tryz.prog 73 = some false := by kernel_rfl
@[go_sem] theorem es73 : elemS Tryz.prog 73 = none := by kernel_rfl
@[go_sem] theorem ha73 : hasT Tryz.prog 73 = true := by kernel_rfl
@[go_sem] theorem ic73 : isIfc Tryz.prog 73 = false := by kernel_rfl
@[go_sem] theorem by73 : bytesOf Tryz.prog 73 = some 8 := by kernel_rfl
@[go_sem] theorem ze73 : zeroOf Tryz.prog 73 = some .nilFunc := by kernel_rfl
@[go_sem] theorem sz74 : szOf Tryz.prog 74 = some 1 := by kernel_rfl
@[go_sem] theorem ag74 : aggOf Tryz.prog 74 = some false := by kernel_rfl
@[go_sem] theorem es74 : elemS Tryz.prog 74 = some 107 := by kernel_rfl
@[go_sem] theorem ha74 : hasT Tryz.prog 74 = true := by kernel_rfl
@[go_sem] theorem ic74 : isIfc Tryz.prog 74 = false := by kernel_rfl
@[go_sem] theorem by74 : bytesOf Tryz.prog 74 = some 24 := by kernel_rfl
@[go_sem] theorem ze74 : zeroOf Tryz.prog 74 = some (.slice none 0 0) := by kernel_rfl
@[go_sem] theorem sz81 : szOf Tryz.prog 81 = some 1 := by kernel_rfl
@[go_sem] theorem ag81 : aggOf Tryz.prog 81 = some false := by kernel_rfl
@[go_sem] theorem es81 : elemS Tryz.prog 81 = none := by kernel_rfl
@[go_sem] theorem ha81 : hasT Tryz.prog 81 = true := by kernel_rfl
@[go_sem] theorem ic81 : isIfc Tryz.prog 81 = false := by kernel_rfl
@[go_sem] theorem by81 : bytesOf Tryz.prog 81 = some 8 := by kernel_rfl
@[go_sem] theorem mp81 : mapT Tryz.prog 81 = some (70, 4) := by kernel_rfl
@[go_sem] theorem ze81 : zeroOf Tryz.prog 81 = some (.map none) := by kernel_rfl
@[go_sem] theorem sz84 : szOf Tryz.prog 84 = some 1 := by kernel_rfl
@[go_sem] theorem ag84 : aggOf Tryz.prog 84 = some false := by kernel_rfl
@[go_sem] theorem es84 : elemS Tryz.prog 84 = none := by kernel_rfl
@[go_sem] theorem ha84 : hasT Tryz.prog 84 = true := by kernel_rfl
@[go_sem] theorem ic84 : isIfc Tryz.prog 84 = false := by kernel_rfl
@[go_sem] theorem by84 : bytesOf Tryz.prog 84 = some 8 := by kernel_rfl
@[go_sem] theorem ze84 : zeroOf Tryz.prog 84 = some .nilFunc := by kernel_rfl
@[go_sem] theorem sz107 : szOf Tryz.prog 107 = some 4 := by kernel_rfl
@[go_sem] theorem ag107 : aggOf Tryz.prog 107 = some true := by kernel_rfl
@[go_sem] theorem fl107_0 : fldOf Tryz.prog 107 0 = some (0, 9) := by kernel_rfl
@[go_sem] theorem fl107_1 : fldOf Tryz.prog 107 1 = some (1, 51) := by kernel_rfl
@[go_sem] theorem es107 : elemS Tryz.prog 107 = none := by kernel_rfl
@[go_sem] theorem ha107 : hasT Tryz.prog 107 = true := by kernel_rfl
@[go_sem] theorem ic107 : isIfc Tryz.prog 107 = false := by kernel_rfl
@[go_sem] theorem pl107 : placesOf Tryz.prog 107 = some [(0, 1), (1, 3)] := by kernel_rfl
@[go_sem] theorem by107 : bytesOf Tryz.prog 107 = some 48 := by kernel_rfl
@[go_sem] theorem eg107 : egOf Tryz.prog 107 = false := by kernel_rfl
@[go_sem] theorem ks107 : KS.of Tryz.prog 107 = some (.agg [.str, .boo, .str, (.num .i64)]) := by kernel_rfl
@[go_sem] theorem ze107 : zeroOf Tryz.prog 107 = some (.agg #[(.string ByteArray.empty), (.bool false), (.string ByteArray.empty), (.int .i64 0)]) := by kernel_rfl
@[go_sem] theorem sz109 : szOf Tryz.prog 109 = some 5 := by kernel_rfl
@[go_sem] theorem ag109 : aggOf Tryz.prog 109 = some true := by kernel_rfl
@[go_sem] theorem fl109_0 : fldOf Tryz.prog 109 0 = some (0, 9) := by kernel_rfl
@[go_sem] theorem fl109_1 : fldOf Tryz.prog 109 1 = some (1, 25) := by kernel_rfl
@[go_sem] theorem fl109_2 : fldOf Tryz.prog 109 2 = some (4, 3) := by kernel_rfl
@[go_sem] theorem es109 : elemS Tryz.prog 109 = none := by kernel_rfl
@[go_sem] theorem ha109 : hasT Tryz.prog 109 = true := by kernel_rfl
@[go_sem] theorem ic109 : isIfc Tryz.prog 109 = false := by kernel_rfl
@[go_sem] theorem pl109 : placesOf Tryz.prog 109 = some [(0, 1), (1, 3), (4, 1)] := by kernel_rfl
@[go_sem] theorem by109 : bytesOf Tryz.prog 109 = some 72 := by kernel_rfl
@[go_sem] theorem ze109 : zeroOf Tryz.prog 109 = some (.agg #[(.string ByteArray.empty), (.string ByteArray.empty), (.slice none 0 0), (.int .i64 0), (.int .i64 0)]) := by kernel_rfl
@[go_sem] theorem ks9 : KS.of Tryz.prog 9 = some (.one .str) := by kernel_rfl
@[go_sem] theorem sz112 : szOf Tryz.prog 112 = some 1 := by kernel_rfl
@[go_sem] theorem ag112 : aggOf Tryz.prog 112 = some false := by kernel_rfl
@[go_sem] theorem es112 : elemS Tryz.prog 112 = none := by kernel_rfl
@[go_sem] theorem ha112 : hasT Tryz.prog 112 = true := by kernel_rfl
@[go_sem] theorem ic112 : isIfc Tryz.prog 112 = false := by kernel_rfl
@[go_sem] theorem by112 : bytesOf Tryz.prog 112 = some 8 := by kernel_rfl
@[go_sem] theorem mp112 : mapT Tryz.prog 112 = some (9, 55) := by kernel_rfl
@[go_sem] theorem ze112 : zeroOf Tryz.prog 112 = some (.map none) := by kernel_rfl
@[go_sem] theorem sz117 : szOf Tryz.prog 117 = some 1 := by kernel_rfl
@[go_sem] theorem ag117 : aggOf Tryz.prog 117 = some false := by kernel_rfl
@[go_sem] theorem es117 : elemS Tryz.prog 117 = none := by kernel_rfl
@[go_sem] theorem ha117 : hasT Tryz.prog 117 = true := by kernel_rfl
@[go_sem] theorem ic117 : isIfc Tryz.prog 117 = false := by kernel_rfl
@[go_sem] theorem by117 : bytesOf Tryz.prog 117 = some 8 := by kernel_rfl
@[go_sem] theorem ze117 : zeroOf Tryz.prog 117 = some .nilFunc := by kernel_rfl
@[go_sem] theorem sz118 : szOf Tryz.prog 118 = some 1 := by kernel_rfl
@[go_sem] theorem ag118 : aggOf Tryz.prog 118 = some false := by kernel_rfl
@[go_sem] theorem es118 : elemS Tryz.prog 118 = none := by kernel_rfl
@[go_sem] theorem ha118 : hasT Tryz.prog 118 = true := by kernel_rfl
@[go_sem] theorem ic118 : isIfc Tryz.prog 118 = false := by kernel_rfl
@[go_sem] theorem by118 : bytesOf Tryz.prog 118 = some 8 := by kernel_rfl
@[go_sem] theorem ze118 : zeroOf Tryz.prog 118 = some .nilFunc := by kernel_rfl
@[go_sem] theorem sz123 : szOf Tryz.prog 123 = some 1 := by kernel_rfl
@[go_sem] theorem ag123 : aggOf Tryz.prog 123 = some false := by kernel_rfl
@[go_sem] theorem es123 : elemS Tryz.prog 123 = none := by kernel_rfl
@[go_sem] theorem ha123 : hasT Tryz.prog 123 = true := by kernel_rfl
@[go_sem] theorem ic123 : isIfc Tryz.prog 123 = false := by kernel_rfl
@[go_sem] theorem by123 : bytesOf Tryz.prog 123 = some 8 := by kernel_rfl
@[go_sem] theorem ze123 : zeroOf Tryz.prog 123 = some .nilFunc := by kernel_rfl
@[go_sem] theorem sz124 : szOf Tryz.prog 124 = some 1 := by kernel_rfl
@[go_sem] theorem ag124 : aggOf Tryz.prog 124 = some false := by kernel_rfl
@[go_sem] theorem es124 : elemS Tryz.prog 124 = none := by kernel_rfl
@[go_sem] theorem ha124 : hasT Tryz.prog 124 = true := by kernel_rfl
@[go_sem] theorem ic124 : isIfc Tryz.prog 124 = false := by kernel_rfl
@[go_sem] theorem by124 : bytesOf Tryz.prog 124 = some 8 := by kernel_rfl
@[go_sem] theorem ze124 : zeroOf Tryz.prog 124 = some .nilFunc := by kernel_rfl
@[go_sem] theorem sz126 : szOf Tryz.prog 126 = some 1 := by kernel_rfl
@[go_sem] theorem ag126 : aggOf Tryz.prog 126 = some false := by kernel_rfl
@[go_sem] theorem es126 : elemS Tryz.prog 126 = none := by kernel_rfl
@[go_sem] theorem ha126 : hasT Tryz.prog 126 = true := by kernel_rfl
@[go_sem] theorem ic126 : isIfc Tryz.prog 126 = false := by kernel_rfl
@[go_sem] theorem by126 : bytesOf Tryz.prog 126 = some 8 := by kernel_rfl
@[go_sem] theorem ze126 : zeroOf Tryz.prog 126 = some .nilFunc := by kernel_rfl
@[go_sem] theorem sz129 : szOf Tryz.prog 129 = some 1 := by kernel_rfl
@[go_sem] theorem ag129 : aggOf Tryz.prog 129 = some false := by kernel_rfl
@[go_sem] theorem es129 : elemS Tryz.prog 129 = none := by kernel_rfl
@[go_sem] theorem ha129 : hasT Tryz.prog 129 = true := by kernel_rfl
@[go_sem] theorem ic129 : isIfc Tryz.prog 129 = false := by kernel_rfl
@[go_sem] theorem io129 : intOfT Tryz.prog 129 = some .u64 := by kernel_rfl
@[go_sem] theorem by129 : bytesOf Tryz.prog 129 = some 8 := by kernel_rfl
@[go_sem] theorem ze129 : zeroOf Tryz.prog 129 = some (.int .u64 0) := by kernel_rfl
@[go_sem] theorem sz130 : szOf Tryz.prog 130 = some 1 := by kernel_rfl
@[go_sem] theorem ag130 : aggOf Tryz.prog 130 = some false := by kernel_rfl
@[go_sem] theorem es130 : elemS Tryz.prog 130 = some 3 := by kernel_rfl
@[go_sem] theorem ha130 : hasT Tryz.prog 130 = true := by kernel_rfl
@[go_sem] theorem ic130 : isIfc Tryz.prog 130 = false := by kernel_rfl
@[go_sem] theorem by130 : bytesOf Tryz.prog 130 = some 24 := by kernel_rfl
@[go_sem] theorem ze130 : zeroOf Tryz.prog 130 = some (.slice none 0 0) := by kernel_rfl
@[go_sem] theorem sz132 : szOf Tryz.prog 132 = some 1 := by kernel_rfl
@[go_sem] theorem ag132 : aggOf Tryz.prog 132 = some false := by kernel_rfl
@[go_sem] theorem es132 : elemS Tryz.prog 132 = some 5 := by kernel_rfl
@[go_sem] theorem ha132 : hasT Tryz.prog 132 = true := by kernel_rfl
@[go_sem] theorem ic132 : isIfc Tryz.prog 132 = false := by kernel_rfl
@[go_sem] theorem by132 : bytesOf Tryz.prog 132 = some 24 := by kernel_rfl
@[go_sem] theorem bt132 : isBytesT Tryz.prog 132 = true := by kernel_rfl
@[go_sem] theorem ze132 : zeroOf Tryz.prog 132 = some (.slice none 0 0) := by kernel_rfl
@[go_sem] theorem sz143 : szOf Tryz.prog 143 = some 1 := by kernel_rfl
@[go_sem] theorem ag143 : aggOf Tryz.prog 143 = some false := by kernel_rfl
@[go_sem] theorem es143 : elemS Tryz.prog 143 = none := by kernel_rfl
@[go_sem] theorem ha143 : hasT Tryz.prog 143 = true := by kernel_rfl
@[go_sem] theorem ic143 : isIfc Tryz.prog 143 = false := by kernel_rfl
@[go_sem] theorem by143 : bytesOf Tryz.prog 143 = some 0 := by kernel_rfl
@[go_sem] theorem sz148 : szOf Tryz.prog 148 = some 1 := by kernel_rfl
@[go_sem] theorem ag148 : aggOf Tryz.prog 148 = some false := by kernel_rfl
@[go_sem] theorem es148 : elemS Tryz.prog 148 = none := by kernel_rfl
@[go_sem] theorem ha148 : hasT Tryz.prog 148 = true := by kernel_rfl
@[go_sem] theorem ic148 : isIfc Tryz.prog 148 = false := by kernel_rfl
@[go_sem] theorem by148 : bytesOf Tryz.prog 148 = some 8 := by kernel_rfl
@[go_sem] theorem ze148 : zeroOf Tryz.prog 148 = some .nilFunc := by kernel_rfl
@[go_sem] theorem sz150 : szOf Tryz.prog 150 = some 1 := by kernel_rfl
@[go_sem] theorem ag150 : aggOf Tryz.prog 150 = some false := by kernel_rfl
@[go_sem] theorem es150 : elemS Tryz.prog 150 = none := by kernel_rfl
@[go_sem] theorem ha150 : hasT Tryz.prog 150 = true := by kernel_rfl
@[go_sem] theorem ic150 : isIfc Tryz.prog 150 = false := by kernel_rfl
@[go_sem] theorem io150 : intOfT Tryz.prog 150 = some .i64 := by kernel_rfl
@[go_sem] theorem by150 : bytesOf Tryz.prog 150 = some 8 := by kernel_rfl
@[go_sem] theorem ze150 : zeroOf Tryz.prog 150 = some (.int .i64 0) := by kernel_rfl
@[go_sem] theorem sz151 : szOf Tryz.prog 151 = some 1 := by kernel_rfl
@[go_sem] theorem ag151 : aggOf Tryz.prog 151 = some false := by kernel_rfl
@[go_sem] theorem es151 : elemS Tryz.prog 151 = none := by kernel_rfl
@[go_sem] theorem ha151 : hasT Tryz.prog 151 = true := by kernel_rfl
@[go_sem] theorem ic151 : isIfc Tryz.prog 151 = false := by kernel_rfl
@[go_sem] theorem by151 : bytesOf Tryz.prog 151 = some 0 := by kernel_rfl
@[go_sem] theorem sz155 : szOf Tryz.prog 155 = some 1 := by kernel_rfl
@[go_sem] theorem ag155 : aggOf Tryz.prog 155 = some false := by kernel_rfl
@[go_sem] theorem es155 : elemS Tryz.prog 155 = none := by kernel_rfl
@[go_sem] theorem ha155 : hasT Tryz.prog 155 = true := by kernel_rfl
@[go_sem] theorem ic155 : isIfc Tryz.prog 155 = false := by kernel_rfl
@[go_sem] theorem by155 : bytesOf Tryz.prog 155 = some 0 := by kernel_rfl
@[go_sem] theorem sz158 : szOf Tryz.prog 158 = some 1 := by kernel_rfl
@[go_sem] theorem ag158 : aggOf Tryz.prog 158 = some false := by kernel_rfl
@[go_sem] theorem es158 : elemS Tryz.prog 158 = none := by kernel_rfl
@[go_sem] theorem ha158 : hasT Tryz.prog 158 = true := by kernel_rfl
@[go_sem] theorem ic158 : isIfc Tryz.prog 158 = false := by kernel_rfl
@[go_sem] theorem io158 : intOfT Tryz.prog 158 = some .u32 := by kernel_rfl
@[go_sem] theorem by158 : bytesOf Tryz.prog 158 = some 4 := by kernel_rfl
@[go_sem] theorem ze158 : zeroOf Tryz.prog 158 = some (.int .u32 0) := by kernel_rfl
@[go_sem] theorem sz160 : szOf Tryz.prog 160 = some 1 := by kernel_rfl
@[go_sem] theorem ag160 : aggOf Tryz.prog 160 = some false := by kernel_rfl
@[go_sem] theorem es160 : elemS Tryz.prog 160 = none := by kernel_rfl
@[go_sem] theorem ha160 : hasT Tryz.prog 160 = true := by kernel_rfl
@[go_sem] theorem ic160 : isIfc Tryz.prog 160 = false := by kernel_rfl
@[go_sem] theorem io160 : intOfT Tryz.prog 160 = some .u64 := by kernel_rfl
@[go_sem] theorem by160 : bytesOf Tryz.prog 160 = some 8 := by kernel_rfl
@[go_sem] theorem ze160 : zeroOf Tryz.prog 160 = some (.int .u64 0) := by kernel_rfl
@[go_sem] theorem sz167 : szOf Tryz.prog 167 = some 1 := by kernel_rfl
@[go_sem] theorem ag167 : aggOf Tryz.prog 167 = some false := by kernel_rfl
@[go_sem] theorem es167 : elemS Tryz.prog 167 = none := by kernel_rfl
@[go_sem] theorem ha167 : hasT Tryz.prog 167 = true := by kernel_rfl
@[go_sem] theorem ic167 : isIfc Tryz.prog 167 = false := by kernel_rfl
@[go_sem] theorem io167 : intOfT Tryz.prog 167 = some .u64 := by kernel_rfl
@[go_sem] theorem by167 : bytesOf Tryz.prog 167 = some 8 := by kernel_rfl
@[go_sem] theorem ze167 : zeroOf Tryz.prog 167 = some (.int .u64 0) := by kernel_rfl
@[go_sem] theorem sz171 : szOf Tryz.prog 171 = some 1 := by kernel_rfl
@[go_sem] theorem ag171 : aggOf Tryz.prog 171 = some false := by kernel_rfl
@[go_sem] theorem es171 : elemS Tryz.prog 171 = none := by kernel_rfl
@[go_sem] theorem ha171 : hasT Tryz.prog 171 = true := by kernel_rfl
@[go_sem] theorem ic171 : isIfc Tryz.prog 171 = false := by kernel_rfl
@[go_sem] theorem by171 : bytesOf Tryz.prog 171 = some 8 := by kernel_rfl
@[go_sem] theorem ip171 : isPtrT Tryz.prog 171 = true := by kernel_rfl
@[go_sem] theorem ze171 : zeroOf Tryz.prog 171 = some (.pointer none) := by kernel_rfl
@[go_sem] theorem sz173 : szOf Tryz.prog 173 = some 24 := by kernel_rfl
@[go_sem] theorem ag173 : aggOf Tryz.prog 173 = some true := by kernel_rfl
@[go_sem] theorem es173 : elemS Tryz.prog 173 = none := by kernel_rfl
@[go_sem] theorem ea173 : elemA Tryz.prog 173 = some (24, 5) := by kernel_rfl
@[go_sem] theorem ha173 : hasT Tryz.prog 173 = true := by kernel_rfl
@[go_sem] theorem ic173 : isIfc Tryz.prog 173 = false := by kernel_rfl
@[go_sem] theorem by173 : bytesOf Tryz.prog 173 = some 24 := by kernel_rfl
@[go_sem] theorem ze173 : zeroOf Tryz.prog 173 = some (.agg #[(.int .u8 0), (.int .u8 0), (.int .u8 0), (.int .u8 0), (.int .u8 0), (.int .u8 0), (.int .u8 0), (.int .u8 0), (.int .u8 0), (.int .u8 0), (.int .u8 0), (.int .u8 0), (.int .u8 0), (.int .u8 0), (.int .u8 0), (.int .u8 0), (.int .u8 0), (.int .u8 0), (.int .u8 0), (.int .u8 0), (.int .u8 0), (.int .u8 0), (.int .u8 0), (.int .u8 0)]) := by kernel_rfl
@[go_sem] theorem sz175 : szOf Tryz.prog 175 = some 1 := by kernel_rfl
@[go_sem] theorem ag175 : aggOf Tryz.prog 175 = some false := by kernel_rfl
@[go_sem] theorem es175 : elemS Tryz.prog 175 = none := by kernel_rfl
@[go_sem] theorem ha175 : hasT Tryz.prog 175 = true := by kernel_rfl
@[go_sem] theorem ic175 : isIfc Tryz.prog 175 = false := by kernel_rfl
@[go_sem] theorem by175 : bytesOf Tryz.prog 175 = some 0 := by kernel_rfl
@[go_sem] theorem sz183 : szOf Tryz.prog 183 = some 1 := by kernel_rfl
@[go_sem] theorem ag183 : aggOf Tryz.prog 183 = some false := by kernel_rfl
@[go_sem] theorem es183 : elemS Tryz.prog 183 = none := by kernel_rfl
@[go_sem] theorem ha183 : hasT Tryz.prog 183 = true := by kernel_rfl
@[go_sem] theorem ic183 : isIfc Tryz.prog 183 = false := by kernel_rfl
@[go_sem] theorem by183 : bytesOf Tryz.prog 183 = some 8 := by kernel_rfl
@[go_sem] theorem ip183 : isPtrT Tryz.prog 183 = true := by kernel_rfl
@[go_sem] theorem ze183 : zeroOf Tryz.prog 183 = some (.pointer none) := by kernel_rfl
@[go_sem] theorem sz184 : szOf Tryz.prog 184 = some 1 := by kernel_rfl
@[go_sem] theorem ag184 : aggOf Tryz.prog 184 = some false := by kernel_rfl
@[go_sem] theorem es184 : elemS Tryz.prog 184 = none := by kernel_rfl
@[go_sem] theorem ha184 : hasT Tryz.prog 184 = true := by kernel_rfl
@[go_sem] theorem ic184 : isIfc Tryz.prog 184 = false := by kernel_rfl
@[go_sem] theorem by184 : bytesOf Tryz.prog 184 = some 0 := by kernel_rfl
@[go_sem] theorem sz187 : szOf Tryz.prog 187 = some 20 := by kernel_rfl
@[go_sem] theorem ag187 : aggOf Tryz.prog 187 = some true := by kernel_rfl
@[go_sem] theorem es187 : elemS Tryz.prog 187 = none := by kernel_rfl
@[go_sem] theorem ea187 : elemA Tryz.prog 187 = some (20, 160) := by kernel_rfl
@[go_sem] theorem ha187 : hasT Tryz.prog 187 = true := by kernel_rfl
@[go_sem] theorem ic187 : isIfc Tryz.prog 187 = false := by kernel_rfl
@[go_sem] theorem by187 : bytesOf Tryz.prog 187 = some 160 := by kernel_rfl
@[go_sem] theorem ze187 : zeroOf Tryz.prog 187 = some (.agg #[(.int .u64 0), (.int .u64 0), (.int .u64 0), (.int .u64 0), (.int .u64 0), (.int .u64 0), (.int .u64 0), (.int .u64 0), (.int .u64 0), (.int .u64 0), (.int .u64 0), (.int .u64 0), (.int .u64 0), (.int .u64 0), (.int .u64 0), (.int .u64 0), (.int .u64 0), (.int .u64 0), (.int .u64 0), (.int .u64 0)]) := by kernel_rfl
@[go_sem] theorem sz188 : szOf Tryz.prog 188 = some 65 := by kernel_rfl
@[go_sem] theorem ag188 : aggOf Tryz.prog 188 = some true := by kernel_rfl
@[go_sem] theorem es188 : elemS Tryz.prog 188 = none := by kernel_rfl
@[go_sem] theorem ea188 : elemA Tryz.prog 188 = some (65, 5) := by kernel_rfl
@[go_sem] theorem ha188 : hasT Tryz.prog 188 = true := by kernel_rfl
@[go_sem] theorem ic188 : isIfc Tryz.prog 188 = false := by kernel_rfl
@[go_sem] theorem by188 : bytesOf Tryz.prog 188 = some 65 := by kernel_rfl
@[go_sem] theorem ze188 : zeroOf Tryz.prog 188 = some (.agg #[(.int .u8 0), (.int .u8 0), (.int .u8 0), (.int .u8 0), (.int .u8 0), (.int .u8 0), (.int .u8 0), (.int .u8 0), (.int .u8 0), (.int .u8 0), (.int .u8 0), (.int .u8 0), (.int .u8 0), (.int .u8 0), (.int .u8 0), (.int .u8 0), (.int .u8 0), (.int .u8 0), (.int .u8 0), (.int .u8 0), (.int .u8 0), (.int .u8 0), (.int .u8 0), (.int .u8 0), (.int .u8 0), (.int .u8 0), (.int .u8 0), (.int .u8 0), (.int .u8 0), (.int .u8 0), (.int .u8 0), (.int .u8 0), (.int .u8 0), (.int .u8 0), (.int .u8 0), (.int .u8 0), (.int .u8 0), (.int .u8 0), (.int .u8 0), (.int .u8 0), (.int .u8 0), (.int .u8 0), (.int .u8 0), (.int .u8 0), (.int .u8 0), (.int .u8 0), (.int .u8 0), (.int .u8 0), (.int .u8 0), (.int .u8 0), (.int .u8 0), (.int .u8 0), (.int .u8 0), (.int .u8 0), (.int .u8 0), (.int .u8 0), (.int .u8 0), (.int .u8 0), (.int .u8 0), (.int .u8 0), (.int .u8 0), (.int .u8 0), (.int .u8 0), (.int .u8 0), (.int .u8 0)]) := by kernel_rfl
@[go_sem] theorem sz192 : szOf Tryz.prog 192 = some 32 := by kernel_rfl
@[go_sem] theorem ag192 : aggOf Tryz.prog 192 = some true := by kernel_rfl
@[go_sem] theorem es192 : elemS Tryz.prog 192 = none := by kernel_rfl
@[go_sem] theorem ea192 : elemA Tryz.prog 192 = some (32, 5) := by kernel_rfl
@[go_sem] theorem ha192 : hasT Tryz.prog 192 = true := by kernel_rfl
@[go_sem] theorem ic192 : isIfc Tryz.prog 192 = false := by kernel_rfl
@[go_sem] theorem by192 : bytesOf Tryz.prog 192 = some 32 := by kernel_rfl
@[go_sem] theorem ze192 : zeroOf Tryz.prog 192 = some (.agg #[(.int .u8 0), (.int .u8 0), (.int .u8 0), (.int .u8 0), (.int .u8 0), (.int .u8 0), (.int .u8 0), (.int .u8 0), (.int .u8 0), (.int .u8 0), (.int .u8 0), (.int .u8 0), (.int .u8 0), (.int .u8 0), (.int .u8 0), (.int .u8 0), (.int .u8 0), (.int .u8 0), (.int .u8 0), (.int .u8 0), (.int .u8 0), (.int .u8 0), (.int .u8 0), (.int .u8 0), (.int .u8 0), (.int .u8 0), (.int .u8 0), (.int .u8 0), (.int .u8 0), (.int .u8 0), (.int .u8 0), (.int .u8 0)]) := by kernel_rfl
@[go_sem] theorem sz193 : szOf Tryz.prog 193 = some 64 := by kernel_rfl
@[go_sem] theorem ag193 : aggOf Tryz.prog 193 = some true := by kernel_rfl
@[go_sem] theorem es193 : elemS Tryz.prog 193 = none := by kernel_rfl
@[go_sem] theorem ea193 : elemA Tryz.prog 193 = some (64, 5) := by kernel_rfl
@[go_sem] theorem ha193 : hasT Tryz.prog 193 = true := by kernel_rfl
@[go_sem] theorem ic193 : isIfc Tryz.prog 193 = false := by kernel_rfl
@[go_sem] theorem by193 : bytesOf Tryz.prog 193 = some 64 := by kernel_rfl
@[go_sem] theorem ze193 : zeroOf Tryz.prog 193 = some (.agg #[(.int .u8 0), (.int .u8 0), (.int .u8 0), (.int .u8 0), (.int .u8 0), (.int .u8 0), (.int .u8 0), (.int .u8 0), (.int .u8 0), (.int .u8 0), (.int .u8 0), (.int .u8 0), (.int .u8 0), (.int .u8 0), (.int .u8 0), (.int .u8 0), (.int .u8 0), (.int .u8 0), (.int .u8 0), (.int .u8 0), (.int .u8 0), (.int .u8 0), (.int .u8 0), (.int .u8 0), (.int .u8 0), (.int .u8 0), (.int .u8 0), (.int .u8 0), (.int .u8 0), (.int .u8 0), (.int .u8 0), (.int .u8 0), (.int .u8 0), (.int .u8 0), (.int .u8 0), (.int .u8 0), (.int .u8 0), (.int .u8 0), (.int .u8 0), (.int .u8 0), (.int .u8 0), (.int .u8 0), (.int .u8 0), (.int .u8 0), (.int .u8 0), (.int .u8 0), (.int .u8 0), (.int .u8 0), (.int .u8 0), (.int .u8 0), (.int .u8 0), (.int .u8 0), (.int .u8 0), (.int .u8 0), (.int .u8 0), (.int .u8 0), (.int .u8 0), (.int .u8 0), (.int .u8 0), (.int .u8 0), (.int .u8 0), (.int .u8 0), (.int .u8 0), (.int .u8 0)]) := by kernel_rfl
end Go.Proofs.T

namespace Go.Proofs.T
open Go Go.Ab Go.RowKit

mutual
def count : Ty → Nat → Nat
  | .mk nm xs _, n => countL xs (n + 1 + nm.size / 50)
def countL : List Ty → Nat → Nat
  | [], n => n
  | t :: r, n => if n ≤ 2000 then countL r (count t n) else n
end
theorem count_eq (t : Ty) (n : Nat) : count t n = countL t.args (n + 1 + t.name.size / 50) := by cases t; simp [count]
theorem countL_le {l : List Ty} {n : Nat} (h : 2000 < n) : countL l n = n := by cases l <;> simp [countL]; omega

def big : Nat := 184467440737097518
mutual
theorem count_bound : ∀ (t : Ty) (n : Nat), okTy t → count t n ≤ Nat.max n 2000 + big
  | .mk nm xs p, n, h => by
    simp only [count]
    simp only [okTy] at h
    have h1 : n + 1 + nm.size / 50 ≤ Nat.max n 2000 + big := by
      have : n ≤ Nat.max n 2000 := Nat.le_max_left ..
      unfold big; omega
    have := countL_bound xs (n + 1 + nm.size / 50) (Nat.max n 2000) h.2.2 (Nat.le_max_right ..) h1
    exact this
theorem countL_bound : ∀ (l : List Ty) (n m : Nat), okTys l → 2000 ≤ m → n ≤ m + big → countL l n ≤ m + big
  | [], n, m, _, h2, h => by simpa [countL] using h
  | t :: r, n, m, hk, h2, h => by
    simp only [countL]
    simp only [okTys] at hk
    split
    · rename_i hn
      refine countL_bound r _ m hk.2 h2 ?_
      have := count_bound t n hk.1
      have : Nat.max n 2000 = 2000 := Nat.max_eq_right hn
      omega
    · exact h
end

set_option maxRecDepth 10000 in
theorem count_calls : ∀ (t : Ty), okTy t → ∀ (n g d : Nat), n ≤ 4611686018427387904 → ACalls E 81 [encTy t, dN n] [] g d (dN (count t n)) [] := by
  refine Ty.ind fun t ih => ?_
  intro ht n g d hn
  obtain ⟨hs1, hs2, hs3⟩ := (okTy_iff t).1 ht
  refine acalls_of_awp (fn := Tryz.f81) (N := 32) Tryz.call81 Tryz.func81 rfl rfl (by simp) ?_
  simp only [go_sem]
  refine awp_seq_k (fun K1 hK1 => ?_)
  refine awp_plain 2 (by kernel_rfl) rfl (fun g0 hg0 => ?_)
  simp only [go_sem]
  refine hK1 _ ?_
  refine awp_seq_k (fun K2 hK2 => ?_)
  refine awp_plain 8 (by kernel_rfl) rfl (fun g1 hg1 => ?_)
  simp only [go_sem]
  try simp (disch := omega) only [wrapN, Int.tdiv_eq_ediv_of_nonneg]
  refine hK2 _ ?_
  refine awp_seq_k (fun K3 hK3 => ?_)
  refine awp_seq_k (fun K4 hK4 => ?_)
  refine awp_plain 1 (by kernel_rfl) rfl (fun g2 hg2 => ?_)
  simp only [go_sem]
  refine hK4 _ ?_
  refine awp_block ?_
  refine awp_loop (fun m s => ∃ k n', k ≤ t.args.length ∧ m = t.args.length - k ∧ n' ≤ 4611686018427387904 + big ∧ countL (t.args.drop k) n' = count t n ∧
      Le { env := [(1, dN n'), (2, .ptr ⟨g0, 2, 0⟩ 0), (5, dN k)], σ := [(⟨g0, 2, 0⟩, .box 25 (tyC t))] } s) t.args.length ?_ ?_
  · refine ⟨0, n + 1 + t.name.size / 50, Nat.zero_le _, rfl, by unfold big; omega, by rw [count_eq]; rfl, le_of ?_⟩
    simp only [go_sem, tyC]
    omega
  · rintro m s ⟨k, n', hk, rfl, hn', hc, hle⟩
    refine awp_keep hle ?_
    clear hle
    by_cases hlt : k < t.args.length
    · by_cases hle : (n' : Int) ≤ 2000
      · refine awp_seq_k (fun K5 hK5 => ?_)
        refine awp_seq_k (fun K6 hK6 => ?_)
        refine awp_plain 9 (by kernel_rfl) rfl (fun g3 hg3 => ?_)
        simp only [go_sem, tyC, hlt, hle]
        refine hK6 _ ?_
        refine awp_t rfl ?_
        refine awp_skip ?_
        refine hK5 _ ?_
        refine awp_seq_k (fun K7 hK7 => ?_)
        refine awp_block ?_
        refine awp_ops (by kernel_rfl) rfl (fun g5 hg5 ops5 KR5 hops5 hKR5 => ?_)
        refine aops_eval 6 hops5 ?_
        simp only [go_sem, getM hlt]
        refine aops_pure hops5 rfl rfl rfl (ih _ (List.getElem_mem _) (hs3 _ (List.getElem_mem _)) n' _ _ (by omega)) (CoL.refl _) ?_
        refine aops_last 1 hops5 ?_
        simp only [go_sem]
        refine hKR5 _ ?_
        refine hK7 _ ?_
        refine awp_plain 3 (by kernel_rfl) rfl (fun g4 hg4 => ?_)
        simp only [go_sem]
        try simp (disch := omega) only [wrapN]
        have e : countL (t.args.drop k) n' = countL (t.args.drop (k + 1)) (count t.args[k] n') := by
          rw [List.drop_eq_getElem_cons hlt]; simp only [countL]; rw [if_pos (by omega)]
        have e2 := count_bound t.args[k] n' (hs3 _ (List.getElem_mem _))
        have e3 : Nat.max n' 2000 ≤ 4611686018427387904 := Nat.max_le.2 ⟨by omega, by omega⟩
        refine ⟨_, ?_, k + 1, count t.args[k] n', hlt, rfl, ?_, by rw [← e]; exact hc, le_of ?_⟩
        · omega
        · omega
        simp only [go_sem, tyC]
        omega
      · refine awp_seq_k (fun K8 hK8 => ?_)
        refine awp_seq_k (fun K9 hK9 => ?_)
        refine awp_plain 9 (by kernel_rfl) rfl (fun g3 hg3 => ?_)
        simp only [go_sem, tyC, hlt, hle]
        refine hK9 _ ?_
        rw [countL_le (by omega)] at hc
        subst hc
        refine awp_f rfl ?_
        refine awp_exit ?_
        refine hK3 _ ?_
        refine awp_seq_k (fun K10 hK10 => ?_)
        refine awp_plain 2 (by kernel_rfl) rfl (fun g6 hg6 => ?_)
        simp only [go_sem]
        refine hK10 _ ?_
        refine awp_ret ?_
        refine ends_ev rfl ?_
        simp only [go_sem]
        exact Co.refl _
    · refine awp_seq_k (fun K11 hK11 => ?_)
      refine awp_seq_k (fun K12 hK12 => ?_)
      refine awp_plain 9 (by kernel_rfl) rfl (fun g3 hg3 => ?_)
      simp only [go_sem, tyC, hlt]
      refine hK12 _ ?_
      rw [List.drop_eq_nil_of_le (by omega)] at hc
      simp only [countL] at hc
      subst hc
      refine awp_f rfl ?_
      refine awp_exit ?_
      refine hK3 _ ?_
      refine awp_seq_k (fun K13 hK13 => ?_)
      refine awp_plain 2 (by kernel_rfl) rfl (fun g6 hg6 => ?_)
      simp only [go_sem]
      refine hK13 _ ?_
      refine awp_ret ?_
      refine ends_ev rfl ?_
      simp only [go_sem]
      exact Co.refl _
end Go.Proofs.T


namespace Go.Proofs.T
open Go Go.Ab Go.RowKit

/-! ## Comparing -/

def cmpL : List UInt8 → List UInt8 → Int
  | [], [] => 0
  | [], _ :: _ => -1
  | _ :: _, [] => 1
  | a :: x, b :: y => if a < b then -1 else if b < a then 1 else cmpL x y

def cmpS (a b : Str) : Int := cmpL a.data.toList b.data.toList

theorem cmpL_zero : ∀ {x y : List UInt8}, cmpL x y = 0 ↔ x = y
  | [], [] => by simp [cmpL]
  | [], _ :: _ => by simp [cmpL]
  | _ :: _, [] => by simp [cmpL]
  | a :: x, b :: y => by
    simp only [cmpL]
    split
    · rename_i h; simp; rintro rfl; exact absurd h (by simp)
    · split
      · rename_i h; simp; rintro rfl; exact absurd h (by simp)
      · rename_i h1 h2
        have : a = b := by
          apply UInt8.le_antisymm
          · exact UInt8.not_lt.1 h2
          · exact UInt8.not_lt.1 h1
        subst this
        simp [cmpL_zero (x := x) (y := y)]

theorem cmpS_zero {a b : Str} : cmpS a b = 0 ↔ a = b := by
  unfold cmpS
  rw [cmpL_zero, Array.toList_inj]
  constructor
  · intro h; cases a; cases b; simp_all
  · rintro rfl; rfl

theorem str_get {s : Str} {k : Nat} (h : k < s.size) : s[k]? = some (s.data.toList[k]'h) := by
  have : s[k]? = some s[k] := getElem?_pos s k h
  rw [this]; rfl

theorem cmpL_less : ∀ (x y : List UInt8), Op.bytesLess x y = decide (cmpL x y = -1)
  | [], [] => by simp [Op.bytesLess, cmpL]
  | [], _ :: _ => by simp [Op.bytesLess, cmpL]
  | _ :: _, [] => by simp [Op.bytesLess, cmpL]
  | a :: x, b :: y => by
    simp only [Op.bytesLess, cmpL]
    by_cases h1 : a < b
    · simp [h1]
    · by_cases h2 : b < a
      · simp [h1, h2]; intro h; subst h; simp at h2
      · have : a = b := UInt8.le_antisymm (UInt8.not_lt.1 h2) (UInt8.not_lt.1 h1)
        subst this
        simp [h1, cmpL_less x y]

theorem cmpL_range : ∀ (x y : List UInt8), cmpL x y = -1 ∨ cmpL x y = 0 ∨ cmpL x y = 1
  | [], [] => by simp [cmpL]
  | [], _ :: _ => by simp [cmpL]
  | _ :: _, [] => by simp [cmpL]
  | a :: x, b :: y => by
    simp only [cmpL]
    split
    · simp
    · split
      · simp
      · exact cmpL_range x y

theorem cmpS_less (a b : Str) : Op.bytesLess a.toList b.toList = decide (cmpS a b = -1) := by
  rw [cmpL_less, ByteArray.toList_eq, ByteArray.toList_eq]; rfl

set_option maxRecDepth 10000 in
theorem compareS_calls (a b : Str) (ha : a.size ≤ 9223372036854775807) (g d : Nat) :
    ACalls E 41 [encS a, encS b] [] g d (dI (cmpS a b)) [] := by
  refine acalls_of_awp (fn := Tryz.f41) (N := 42) Tryz.call41 Tryz.func41 rfl rfl (by simp) ?_
  simp only [go_sem]
  refine awp_seq_k (fun K1 hK1 => ?_)
  refine awp_plain 1 (by kernel_rfl) rfl (fun g0 hg0 => ?_)
  simp only [go_sem]
  refine hK1 _ ?_
  refine awp_seq_k (fun K2 hK2 => ?_)
  refine awp_seq_k (fun K3 hK3 => ?_)
  refine awp_plain 1 (by kernel_rfl) rfl (fun g1 hg1 => ?_)
  simp only [go_sem]
  refine hK3 _ ?_
  refine awp_block ?_
  refine awp_loop (fun m s => ∃ k, k ≤ a.size ∧ k ≤ b.size ∧ m = a.size - k ∧ cmpL (a.data.toList.drop k) (b.data.toList.drop k) = cmpS a b ∧
      Le { env := [(0, encS a), (1, encS b), (5, dN k)], σ := [] } s) a.size ?_ ?_
  · refine ⟨0, Nat.zero_le _, Nat.zero_le _, rfl, rfl, le_of ?_⟩
    simp only [go_sem]
    trivial
  · rintro m s ⟨k, hka, hkb, rfl, hc, hle⟩
    refine awp_keep hle ?_
    clear hle
    by_cases ha : k < a.size
    · by_cases hb : k < b.size
      · rw [List.drop_eq_getElem_cons (show k < a.data.toList.length from ha), List.drop_eq_getElem_cons (show k < b.data.toList.length from hb)] at hc
        simp only [cmpL] at hc
        refine awp_seq_k (fun K4 hK4 => ?_)
        refine awp_seq_k (fun K5 hK5 => ?_)
        refine awp_plain 10 (by kernel_rfl) rfl (fun g2 hg2 => ?_)
        simp only [go_sem, ha, hb]
        refine hK5 _ ?_
        refine awp_t rfl ?_
        refine awp_skip ?_
        refine hK4 _ ?_
        refine awp_seq_k (fun K6 hK6 => ?_)
        refine awp_block ?_
        refine awp_seq_k (fun K7 hK7 => ?_)
        refine awp_seq_k (fun K8 hK8 => ?_)
        have h0 : (0 : Int) ≤ k := by omega
        by_cases h1 : a.data.toList[k] < b.data.toList[k]
        · rw [if_pos h1] at hc
          have h1' : (a.data.toList[k].toNat : Int) < b.data.toList[k].toNat := by exact_mod_cast UInt8.lt_iff_toNat_lt.1 h1
          refine awp_anyq (by kernel_rfl) rfl (fun g4 hg4 ops4 KR4 hops4 hKR4 => ?_)
          refine qrun_last 7 hops4 ?_
          simp only [go_sem, h0, Int.toNat_natCast, str_get ha, str_get hb, h1']
          refine hKR4 _ ?_
          refine hK8 _ ?_
          refine awp_t rfl ?_
          refine awp_seq_k (fun K9 hK9 => ?_)
          refine awp_plain 1 (by kernel_rfl) rfl (fun g5 hg5 => ?_)
          simp only [go_sem]
          refine hK9 _ ?_
          refine awp_ret ?_
          rw [← hc]
          refine ends_ev rfl ?_
          simp only [go_sem]
          exact Co.refl _
        · rw [if_neg h1] at hc
          have h1' : ¬ (a.data.toList[k].toNat : Int) < b.data.toList[k].toNat := fun h => h1 (UInt8.lt_iff_toNat_lt.2 (by exact_mod_cast h))
          refine awp_anyq (by kernel_rfl) rfl (fun g4 hg4 ops4 KR4 hops4 hKR4 => ?_)
          refine qrun_last 7 hops4 ?_
          simp only [go_sem, h0, Int.toNat_natCast, str_get ha, str_get hb, h1']
          refine hKR4 _ ?_
          refine hK8 _ ?_
          refine awp_f rfl ?_
          refine awp_skip ?_
          refine hK7 _ ?_
          refine awp_seq_k (fun K10 hK10 => ?_)
          by_cases h2 : b.data.toList[k] < a.data.toList[k]
          · rw [if_pos h2] at hc
            have h2' : (b.data.toList[k].toNat : Int) < a.data.toList[k].toNat := by exact_mod_cast UInt8.lt_iff_toNat_lt.1 h2
            refine awp_anyq (by kernel_rfl) rfl (fun g6 hg6 ops6 KR6 hops6 hKR6 => ?_)
            refine qrun_last 7 hops6 ?_
            simp only [go_sem, h0, Int.toNat_natCast, str_get ha, str_get hb, h2']
            refine hKR6 _ ?_
            refine hK10 _ ?_
            refine awp_t rfl ?_
            refine awp_seq_k (fun K11 hK11 => ?_)
            refine awp_plain 1 (by kernel_rfl) rfl (fun g7 hg7 => ?_)
            simp only [go_sem]
            refine hK11 _ ?_
            refine awp_ret ?_
            rw [← hc]
            refine ends_ev rfl ?_
            simp only [go_sem]
            exact Co.refl _
          · rw [if_neg h2] at hc
            have h2' : ¬ (b.data.toList[k].toNat : Int) < a.data.toList[k].toNat := fun h => h2 (UInt8.lt_iff_toNat_lt.2 (by exact_mod_cast h))
            refine awp_anyq (by kernel_rfl) rfl (fun g6 hg6 ops6 KR6 hops6 hKR6 => ?_)
            refine qrun_last 7 hops6 ?_
            simp only [go_sem, h0, Int.toNat_natCast, str_get ha, str_get hb, h2']
            refine hKR6 _ ?_
            refine hK10 _ ?_
            refine awp_f rfl ?_
            refine awp_skip ?_
            refine hK6 _ ?_
            refine awp_plain 3 (by kernel_rfl) rfl (fun g3 hg3 => ?_)
            simp only [go_sem]
            try simp (disch := omega) only [wrapN]
            refine ⟨_, ?_, k + 1, ha, hb, rfl, hc, le_of ?_⟩
            · omega
            simp only [go_sem]
            omega
      · have : k = b.size := by omega
        subst this
        rw [List.drop_eq_getElem_cons (show b.size < a.data.toList.length from ha), List.drop_eq_nil_of_le (show b.data.toList.length ≤ b.size from Nat.le_refl _)] at hc
        simp only [cmpL] at hc
        have h3 : ¬ a.size < b.size := by omega
        have h4 : b.size < a.size := ha
        refine awp_seq_k (fun K12 hK12 => ?_)
        refine awp_seq_k (fun K13 hK13 => ?_)
        refine awp_plain 10 (by kernel_rfl) rfl (fun g2 hg2 => ?_)
        simp only [go_sem, ha, hb]
        refine hK13 _ ?_
        refine awp_f rfl ?_
        refine awp_exit ?_
        refine hK2 _ ?_
        refine awp_seq_k (fun K14 hK14 => ?_)
        refine awp_seq_k (fun K15 hK15 => ?_)
        refine awp_plain 5 (by kernel_rfl) rfl (fun g8 hg8 => ?_)
        simp only [go_sem, h3]
        refine hK15 _ ?_
        refine awp_f rfl ?_
        refine awp_skip ?_
        refine hK14 _ ?_
        refine awp_seq_k (fun K16 hK16 => ?_)
        refine awp_seq_k (fun K17 hK17 => ?_)
        refine awp_plain 5 (by kernel_rfl) rfl (fun g10 hg10 => ?_)
        simp only [go_sem, h4]
        refine hK17 _ ?_
        refine awp_t rfl ?_
        refine awp_seq_k (fun K18 hK18 => ?_)
        refine awp_plain 1 (by kernel_rfl) rfl (fun g11 hg11 => ?_)
        simp only [go_sem]
        refine hK18 _ ?_
        refine awp_ret ?_
        rw [← hc]
        refine ends_ev rfl ?_
        simp only [go_sem]
        exact Co.refl _
    · have : k = a.size := by omega
      subst this
      rw [List.drop_eq_nil_of_le (show a.data.toList.length ≤ a.size from Nat.le_refl _)] at hc
      refine awp_seq_k (fun K19 hK19 => ?_)
      refine awp_seq_k (fun K20 hK20 => ?_)
      refine awp_plain 10 (by kernel_rfl) rfl (fun g2 hg2 => ?_)
      simp only [go_sem, ha]
      refine hK20 _ ?_
      refine awp_f rfl ?_
      refine awp_exit ?_
      refine hK2 _ ?_
      refine awp_seq_k (fun K21 hK21 => ?_)
      refine awp_seq_k (fun K22 hK22 => ?_)
      by_cases hb : a.size < b.size
      · rw [List.drop_eq_getElem_cons (show a.size < b.data.toList.length from hb)] at hc
        simp only [cmpL] at hc
        refine awp_plain 5 (by kernel_rfl) rfl (fun g8 hg8 => ?_)
        simp only [go_sem, hb]
        refine hK22 _ ?_
        refine awp_t rfl ?_
        refine awp_seq_k (fun K23 hK23 => ?_)
        refine awp_plain 1 (by kernel_rfl) rfl (fun g9 hg9 => ?_)
        simp only [go_sem]
        refine hK23 _ ?_
        refine awp_ret ?_
        rw [← hc]
        refine ends_ev rfl ?_
        simp only [go_sem]
        exact Co.refl _
      · have h4 : ¬ b.size < a.size := by omega
        rw [List.drop_eq_nil_of_le (show b.data.toList.length ≤ a.size from (by show b.size ≤ a.size; omega))] at hc
        simp only [cmpL] at hc
        refine awp_plain 5 (by kernel_rfl) rfl (fun g8 hg8 => ?_)
        simp only [go_sem, hb]
        refine hK22 _ ?_
        refine awp_f rfl ?_
        refine awp_skip ?_
        refine hK21 _ ?_
        refine awp_seq_k (fun K24 hK24 => ?_)
        refine awp_seq_k (fun K25 hK25 => ?_)
        refine awp_plain 5 (by kernel_rfl) rfl (fun g10 hg10 => ?_)
        simp only [go_sem, h4]
        refine hK25 _ ?_
        refine awp_f rfl ?_
        refine awp_skip ?_
        refine hK24 _ ?_
        refine awp_seq_k (fun K26 hK26 => ?_)
        refine awp_plain 1 (by kernel_rfl) rfl (fun g12 hg12 => ?_)
        simp only [go_sem]
        refine hK26 _ ?_
        refine awp_ret ?_
        rw [← hc]
        refine ends_ev rfl ?_
        simp only [go_sem]
        exact Co.refl _

end Go.Proofs.T

