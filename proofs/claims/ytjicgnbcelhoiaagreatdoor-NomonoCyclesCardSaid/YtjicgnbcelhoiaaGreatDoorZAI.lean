/- A part of the proof, under no conditions of its own: ZAI. -/
import Derived.Test.YtjicgnbcelhoiaaGreatDoorZAH
import Derived.Test.YtjicgnbcelhoiaaGreatDoorZAG
import Derived.Test.YtjicgnbcelhoiaaGreatDoorZAF
import Derived.Test.YtjicgnbcelhoiaaGreatDoorProg
namespace Go.Ab
open Go Go.RowKit
theorem awp_rangeX {ι : Type} {E : Ctx} {N : Nat} {Q : Exit → St → Prop} {st : St} {gop : Operand} {p : Tmp} {assign body : Code} {f : FuncId} {caps : List D} {rD : D} (hE : E.rd = false) (hg : ev E st.env gop = .func (.func f) [] caps) (hp : p < N) (i0 : ι) (step : ι → D → ι → Prop) (fin : ι → Prop) (J : ι → Sto → Prop) (h0 : J i0 st.σ)
  (hit : ∀ n (I : ι → Sto → Prop), (∀ i x j, step i x j → YC E n x (I i) (I j)) → IC E f (.yld n :: caps) (I i0) (fun τ => ∃ i, fin i ∧ I i τ) rD)
  (hround : ∀ i x j, step i x j → ∀ σ, J i σ → AWp E.rnd N assign (thenQ (fun s => AWp E.rnd N body (thenQ (fun s' => J j s'.σ) fun _ _ => False) s) fun _ _ => False) { env := (p, x) :: st.env, σ := σ })
  (hdone : ∀ i σ, fin i → J i σ → Q .normal { env := st.env, σ := σ }) : AWp E N (.rangeFunc gop #[p] assign body) Q st := by
 intro w0 hA G w a hN hr r hrd
 obtain rfl := hrd hE
 refine wpIn_rangeFunc fun fn _ => ?_
 have hv := hr.ev hA gop
 rw [hg] at hv
 generalize hgv : a.eval gop = u at hv
 cases hv with
 | func h1 h2 h3 h4 =>
  rename_i fv cv
  have e1 : fv = #[] := Array.size_eq_zero_iff.1 h1
  subst e1
  obtain ⟨m1, m2, m3⟩ := new_mark hr.wf hr.objs
  generalize hG1 : ({ G with F := fun b => G.F b ∨ b = w.heap.size, top := G.top + 1 } : Gh) = G1 at m1 m2 m3
  have hmark : (w.alloc (.deferred (some []))).heap[w.heap.size]? = some (.deferred (some [])) := heap_alloc_n w _
  have hsz1 : (w.alloc (.deferred (some []))).heap.size = w.heap.size + 1 := World.size_alloc _ _
  have hF1 : G1.F w.heap.size := by rw [← hG1]; exact .inr rfl
  generalize hw1 : w.alloc (.deferred (some [])) = w1 at m1 m2 m3 hmark hsz1
  let rc : Loop := { state := .ready, pending := none, fn, tmps := a.tmps, params := #[p], assign, body, defers := w.heap.size }
  let n : Nm := ⟨G.top, 0, 0⟩
  have hn1 : G1.ρ n = none := by
   cases hc : G.ρ n with
   | none => rw [← hG1]; exact hc
   | some v => exact absurd (hr.wf.nm n v hc).1 (Nat.lt_irrefl _)
  have hng : n.g < G1.top := by rw [← hG1]; exact Nat.lt_succ_self _
  have henv1 : ∀ t d, lk st.env t = some d → t < rc.tmps.size ∧ V G1 w1 (rc.tmps.getD t undef) d := fun t d ht => ⟨(hr.env t d ht).1, (hr.env t d ht).2.step m3 hr.wf hr.objs⟩
  obtain ⟨k1, k2, k3⟩ := new_obj (n := n) (v := .pointer (some ⟨w1.heap.size, 0, none⟩)) (ob := .loop rc st.env) m1 m2 hn1 hng (gr_alloc w1 (.loop rc)) (fun b hb => by simp [blk] at hb; subst hb; simp)
   ⟨w1.heap.size, rfl, heap_alloc_n w1 _, fun t d ht => ⟨(henv1 t d ht).1, (henv1 t d ht).2.upd hn1 (fun b hF => heap_alloc_o w1 _ b (m1.lt b hF))⟩⟩
  have hor : Kp.or (single n (.loop rc st.env)) (get st.σ) = get ((n, .loop rc st.env) :: st.σ) := by
   funext m
   simp only [Kp.or, single, get]
   split <;> simp
  rw [hor] at k2 k3
  generalize hG2 : G1.upd n (.pointer (some ⟨w1.heap.size, 0, none⟩)) = G2 at k1 k2 k3
  have hρ2 : G2.ρ n = some (.pointer (some ⟨w1.heap.size, 0, none⟩)) := by rw [← hG2]; simp [Gh.upd]
  have hfree : ∀ j, G2.ρ ⟨G.top, 1, j⟩ = none := fun j => by
   rw [← hG2]
   have : G.ρ ⟨G.top, 1, j⟩ = none := by
    cases hc : G.ρ ⟨G.top, 1, j⟩ with
    | none => rfl
    | some v => exact absurd (hr.wf.nm _ v hc).1 (Nat.lt_irrefl _)
   simp only [Gh.upd]
   rw [if_neg (by simp [n]), ← hG1]
   exact this
  have htop2 : G.top < G2.top := by rw [← hG2, ← hG1]; exact Nat.lt_succ_self _
  have hnσ : get st.σ n = none := by
   cases hc : get st.σ n with
   | none => rfl
   | some o =>
    obtain ⟨v, hv, _⟩ := m2.ob n o hc
    rw [hn1] at hv; cases hv
  generalize hw2 : w1.alloc (.loop rc) = w2 at k1 k2 k3
  have hD2 : w2.heap[w.heap.size]? = some (.deferred (some [])) := by
   rw [← hw2, heap_alloc_o w1 _ _ (by omega)]
   exact hmark
  have hstep : Step no G w (get st.σ) G2 w2 (get ((n, .loop rc st.env) :: st.σ)) := by
   have s := (m3.weaken (R' := fun m => m.g = G.top) fun _ _ h => h.elim).trans (k3.weaken (R' := fun m => m.g = G.top) fun m _ hm => by rw [hm])
   exact s.weaken fun m h1 h2 => by
    have h3 : m.g = G.top := h2
    omega
  have hic := hit n (fun k τ => ∃ σ, τ = (n, .loop rc st.env) :: σ ∧ J k σ ∧ get σ n = none) fun i x j hs => yc_round rfl rfl rfl hN hp (hround i x j hs)
  have hvs : Vs G2 w2 (#[.func (.yield w1.heap.size) #[] #[]] ++ cv) (.yld n :: caps) := by
   refine Vs.append (a := #[.func (.yield w1.heap.size) #[] #[]]) (x := [.yld n]) ⟨rfl, fun i x d hx hd => ?_⟩ ⟨h2, fun i x d hx hd => ?_⟩
   ·match i, hx, hd with
    | 0, hx, hd => cases hx; cases hd; exact .yld hρ2
    | i + 1, hx, hd => simp at hd
   ·exact (h4 i x d hx hd).step hstep hr.wf hr.objs
  refine ⟨w1.heap.size, [{ target := .collected w.heap.size, args := #[] }], w2, { target := .fn (.func f) cv, args := #[.func (.yield w1.heap.size) #[] #[]] }, w2, f, #[.func (.yield w1.heap.size) #[] #[]] ++ cv, w2, ?_, ?_, fun _ _ => fr_fn _ _, ?_, fr_depth none 0, callsIn_fr.2 (Calls.mono (hic.run G.top 1 w0 hA G2 w2 _ _ ⟨st.σ, rfl, h0, hnσ⟩ k1 hvs k2 ⟨htop2, hfree⟩) ?_)⟩
  ·have := run_enterLoop_outer (P := E.P) (w := w) fn a.tmps #[p] assign body
   rw [hsz1, ← hw2]
   subst hw1
   exact this
  ·simp only [resolve, hgv]
   simp [Deferred.ofValue]
   rfl
  ·simp [invoke, hic.call]
  ·rintro e w' ⟨v, G', τ', rfl, ⟨ii, hfin, σ', rfl, hJ, hn'⟩, q1, q2, q3, q4⟩
   have hρ' := q4.ρ n _ hρ2
   obtain ⟨hl, t1, t2, t3⟩ := turn_loop (rc' := { rc with state := .exhausted }) q1 q3 hρ' rfl
   refine ⟨none, _, run_endLoop (P := E.P) hl (by simp [rc]), ?_⟩
   have hsub : ∀ m o, get σ' m = some o → get ((n, Ob.loop { rc with state := .exhausted } st.env) :: σ') m = some o := fun m o hm => get_tail (own := [(n, _)]) (fun q hq => by rw [List.mem_singleton.1 hq]; exact hn') m o hm
   have s2 : Step (fun m => m.g = G.top) G2 w2 (get ((n, .loop rc st.env) :: st.σ)) G' _ (get σ') := ((q4.weaken fun m _ hm => hm.1).trans (t3.weaken fun _ _ h => h.elim)).trans (Step.drop hsub)
   have s1 : Step no G w (get st.σ) G' _ (get σ') := ((hstep.weaken (R' := fun m => m.g = G.top) fun _ _ h => h.elim).trans s2).weaken fun m h1 h2 => by
    have h3 : m.g = G.top := h2
    omega
   refine ⟨G', { env := st.env, σ := σ' }, hN, ⟨t1, fun t d ht => ⟨(hr.env t d ht).1, (hr.env t d ht).2.step s1 hr.wf hr.objs⟩, t2.sub hsub, ?_⟩, s1, hdone ii σ' hfin hJ⟩
   obtain ⟨hb, Ds, hds, hnd, hD⟩ := hr.defers
   have hF2 : G2.F w.heap.size := by rw [← hG2]; exact hF1
   refine ⟨?_, w.heap.size :: Ds, by simp [hds], List.nodup_cons.2 ⟨fun hm => Nat.lt_irrefl _ (hr.wf.lt _ (hD _ hm).1), hnd⟩, fun b hm => ?_⟩
   ·have := s1.base
    have := s1.size
    omega
   ·rcases List.mem_cons.1 hm with rfl | hm
    ·exact ⟨s2.F _ hF2, by rw [s1.base]; exact hb, (s2.keeps k1 k2 _ hF2).trans hD2⟩
    ·obtain ⟨x1, x2, x3⟩ := hD b hm
     exact ⟨s1.F _ x1, by rw [s1.base]; exact x2, (s1.keeps hr.wf hr.objs _ x1).trans x3⟩
theorem awp_rangeX_k {ι : Type} {E : Ctx} {N : Nat} {Q : Exit → St → Prop} {st : St} {gop : Operand} {p : Tmp} {assign body : Code} {f : FuncId} {caps : List D} {rD : D} (hE : E.rd = false) (hg : ev E st.env gop = .func (.func f) [] caps) (hp : p < N) (i0 : ι) (step : ι → D → ι → Prop) (fin : ι → Prop) (J : ι → Sto → Prop) (h0 : J i0 st.σ)
  (hit : ∀ n (I : ι → Sto → Prop), (∀ i x j, step i x j → YC E n x (I i) (I j)) → IC E f (.yld n :: caps) (I i0) (fun τ => ∃ i, fin i ∧ I i τ) rD)
  (hround : ∀ i x j, step i x j → ∀ σ, J i σ → ∀ KA : St → Prop, (∀ s, (∀ KB : St → Prop, (∀ s', J j s'.σ → KB s') → AWp E.rnd N body (thenQ KB fun _ _ => False) s) → KA s) → AWp E.rnd N assign (thenQ KA fun _ _ => False) { env := (p, x) :: st.env, σ := σ })
  (hdone : ∀ i σ, fin i → J i σ → Q .normal { env := st.env, σ := σ }) : AWp E N (.rangeFunc gop #[p] assign body) Q st :=
 awp_rangeX hE hg hp i0 step fin J h0 hit (fun i x j hs σ hJ => hround i x j hs σ hJ (fun s => AWp E.rnd N body (thenQ (fun s' => J j s'.σ) fun _ _ => False) s) fun _ h => h _ fun _ h => h) hdone
end Go.Ab
namespace Go.Ab
open Go Go.RowKit Go.Proofs
def okV {β : Type} (encB : β → D) (vs : List Value) (b : β) : Prop := (encB b).cells = vs.map .val
theorem V.of_okV {β : Type} {encB : β → D} {cs : β → List D} (hag : ∀ b, encB b = .agg (cs b)) {G : Gh} {w : World} {vs : List Value} {b : β} (h : okV encB vs b) : V G w (.agg vs.toArray) (encB b) := by
 unfold okV at h
 rw [hag] at h ⊢
 have h' : cs b = vs.map .val := h
 rw [h']
 refine .agg (by simp) fun i c d hc hd => ?_
 simp only [List.getElem?_map, List.getElem?_toArray] at hc hd
 rw [hc] at hd
 cases hd
 exact .val _
theorem grow_of {w w' : World} (h : Bel w.heap.size w w') : ∃ q os', w' = Sort.grow (w.drewN q) os' := by
 refine ⟨w'.drawn - w.drawn, w'.heap.extract w.heap.size w'.heap.size, ?_⟩
 have hd := h.drawn
 have e1 : w.drawn + (w'.drawn - w.drawn) = w'.drawn := by omega
 have e2 : w.heap ++ w'.heap.extract w.heap.size w'.heap.size = w'.heap := by
  apply Array.ext
  ·rw [Array.size_append, Array.size_extract]
   have := h.size
   omega
  ·intro i h1 h2
   by_cases hi : i < w.heap.size
   ·rw [Array.getElem_append_left hi]
    have := h.block i hi
    rw [Array.getElem?_eq_getElem hi, Array.getElem?_eq_getElem h2] at this
    exact (Option.some.inj this).symm
   ·rw [Array.getElem_append_right (by omega), Array.getElem_extract]
    congr 1
    omega
 have h1 := h.os
 have h2 := h.tape
 have h3 := h.output
 cases w' with
 | mk heap tape drawn os output =>
  simp only at h1 h2 h3 e1 e2
  subst h1 h2 h3
  show _ = World.mk _ _ _ _ _
  simp only [World.drewN, e1]
  congr 1
  exact e2.symm
theorem cmpAt_of {E : Ctx} {β : Type} {k : Nat} {encB : β → D} {cs : β → List D} (hag : ∀ b, encB b = .agg (cs b)) {cmp : FuncId} {cf : β → β → Int} (h : ∀ x y g d, ACalls E cmp [encB x, encB y] [] g d (.val (.int .i64 (cf x y))) []) : CmpAt E.P E.A cmp β k (okV encB) cf := by
 intro x y w hA
 have hw := wf0 w
 have ho := objs0 w
 have hvs : Vs (G0 w) w #[.agg x.vs.toArray, .agg y.vs.toArray] [encB x.tag, encB y.tag] := by
  refine ⟨rfl, fun i c d hc hd => ?_⟩
  match i, hc, hd with
  | 0, hc, hd => cases hc; cases hd; exact V.of_okV hag x.fit
  | 1, hc, hd => cases hc; cases hd; exact V.of_okV hag y.fit
  | i + 2, hc, hd => simp at hd
 refine ((h x.tag y.tag 0 0).run w hA _ w _ hw hvs ho ⟨Nat.lt_succ_self 0, fun _ => rfl⟩).mono ?_
 rintro e w' ⟨v, G', rfl, q1, q2, _, _⟩
 exact ⟨by rw [V.of_val q2], grow_of q1.below⟩
end Go.Ab
namespace Go.Ab
open Go Go.RowKit
structure EC (E : Ctx) (f : FuncId) (args : List D) (σ : Sto) (g d : Nat) (S : D → Sto → Prop) : Prop where
 call : ∀ xs w, (callFunc f xs).run E.P w = .ok (.enter f xs) w
 run : ∀ w0, E.A w0 → ∀ G w (vs : Array Value), WF w0 G w → Vs G w vs args → Objs w0 G w (get σ) → (g < G.top ∧ ∀ j, G.ρ ⟨g, d, j⟩ = none) →
  Calls E.P f vs w fun e w' => ∃ v G' r τ', e = .returned v ∧ S r τ' ∧ WF w0 G' w' ∧ V G' w' v r ∧ Objs w0 G' w' (get τ') ∧ Step (rsv g (some d)) G w (get σ) G' w' (get τ')
section
variable {E : Ctx} {g : Nat}
def retE (E : Ctx) (fn : Func) (g d : Nat) (S : D → Sto → Prop) : Exit → St → Prop
 | .normal, st => ∃ r τ', S r τ' ∧ Ends E fn g d r τ' st
 | .ret, st => ∃ r τ', S r τ' ∧ Ends E fn g d r τ' st
 | _, _ => False
theorem ecalls_of_awp {f : FuncId} {fn : Func} {c : Code} {N d : Nat} {args : List D} {σ : Sto} {S : D → Sto → Prop} (hcall : ∀ xs w, (callFunc f xs).run E.P w = .ok (.enter f xs) w) (hf : E.P.funcs[f]? = some fn) (hb : fn.body = some c) (hN : fn.ntmps = N) (hargs : args.length ≤ N)
  (h : AWp E N c (retE E fn g d S) ⟨argsEnv 0 args, σ⟩) : EC E f args σ g d S := by
 refine ⟨hcall, fun w0 hA G w vs hw hvs ho hfr => ?_⟩
 refine callsIn_wide.1 (callsIn_of_wp_marks (F := Fr none) (n := 0) hf hb (fr_fn _ _) ?_)
 have hwB : WF w0 { G with base := w.heap.size } w := hw.rebase _
 have hoB : Objs w0 { G with base := w.heap.size } w (get σ) := ho.rebase _
 have hsz : (vs ++ Array.replicate (fn.ntmps - vs.size) undef).size = N := by
  have := hvs.1
  simp
  omega
 refine wpIn_mono (h w0 hA { G with base := w.heap.size } w _ hsz ⟨hwB, fun t x ht => ?_, hoB, .nil (Nat.le_refl _)⟩ none (fun _ => rfl)) ?_
 ·obtain ⟨_, h2⟩ := lk_argsEnv 0 args t x ht
  simp only [Nat.sub_zero] at h2
  have hlt : t < vs.size := by
   have := (List.getElem?_eq_some_iff.1 h2).1
   have := hvs.1
   omega
  refine ⟨by rw [hsz]; have := hvs.1; omega, ?_⟩
  rw [Array.getD_eq_getD_getElem?, Array.getElem?_append_left hlt]
  simp only [hlt, getElem?_pos, Option.getD_some]
  exact (hvs.2 t _ x (by simp [hlt]) h2).rebase _
 ·rintro en a' w' ⟨G', st', h1, h2, h3, h4⟩
  have key : (∃ r τ', S r τ' ∧ Ends E fn g d r τ' st') → LeavesInM (Fr none) 0 E.P fn a'.tmps (fun e w'' => ∃ v G'' r τ', e = .returned v ∧ S r τ' ∧ WF w0 G'' w'' ∧ V G'' w'' v r ∧ Objs w0 G'' w'' (get τ') ∧ Step (rsv g (some d)) G w (get σ) G'' w'' (get τ')) a'.defers .returning w' := by
   rintro ⟨r, τ', hpost, he⟩
   obtain ⟨hbs, Ds, hds, hnd, hD⟩ := h2.defers
   have hb3 := h3.base
   have hb4 : G'.base = w.heap.size := hb3
   have go : ∀ (Ds : List Nat) (w' : World) (a2 : Act), a2.tmps = a'.tmps → Ds.Nodup → (∀ b ∈ Ds, G'.F b ∧ G'.base ≤ b ∧ w'.heap[b]? = some (.deferred (some []))) → Rel w0 G' w' { a2 with defers := [] } st' → Step no { G with base := w.heap.size } w (get σ) G' w' (get st'.σ) →
     LeavesInM (Fr none) 0 E.P fn a'.tmps (fun e w'' => ∃ v G'' r τ', e = .returned v ∧ S r τ' ∧ WF w0 G'' w'' ∧ V G'' w'' v r ∧ Objs w0 G'' w'' (get τ') ∧ Step (rsv g (some d)) G w (get σ) G'' w'' (get τ')) (Ds.map (fun b => { target := .collected b, args := #[] })) .returning w' := by
    intro Ds
    induction Ds with
    | nil =>
     intro w' a2 hat _ _ hr2 hs2
     obtain ⟨v, G'', k1, k2, k3, k4, k5⟩ := he w0 hA G' w' { a2 with defers := [] } hr2 ⟨Nat.lt_of_lt_of_le hfr.1 hs2.top, fun j => hs2.fresh hfr.1 (hfr.2 j) fun h => h⟩
     have hst := (hs2.weaken (R' := rsv g (some d)) fun _ _ h => h.elim).trans k5
     have k1' : (results fn a'.tmps).run E.P w' = .ok v w' := by rw [← hat]; exact k1
     exact ⟨v, k1', v, { G'' with base := G.base }, r, τ', rfl, hpost, k2.rebase _, k3.rebase _, k4.rebase _, Step.rebase w.heap.size hst⟩
    | cons D0 Ds ih =>
     intro w' a2 hat hnd hD hr2 hs2
     obtain ⟨m1, m2, m3⟩ := hD D0 List.mem_cons_self
     obtain ⟨n1, n2⟩ := List.nodup_cons.1 hnd
     have hsh : Shut w' (w'.putObj D0 (.deferred none)) D0 := ⟨m3, rfl⟩
     have hbase : w.heap.size ≤ D0 := hb4 ▸ m2
     obtain ⟨q1, q2⟩ := shut_all hsh (Nat.le_trans hw.below.size hbase) m1 hr2.wf hr2.objs
     refine ⟨by simp, .inl ⟨D0, _, rfl, run_takeDeferred m3, ?_⟩⟩
     refine ih _ a2 hat n2 (fun b hb' => ?_) ⟨q1, fun t x ht => ⟨(hr2.env t x ht).1, (hr2.env t x ht).2.shut hsh⟩, q2, .nil (by have := hr2.defers.1; simpa [World.putObj] using this)⟩ (shut_step hsh hs2 hbase)
     obtain ⟨x1, x2, x3⟩ := hD b (List.mem_cons_of_mem _ hb')
     exact ⟨x1, x2, (hsh.heap fun e => n1 (e ▸ hb')).trans x3⟩
   rw [hds]
   exact go Ds w' a' rfl hnd hD ⟨h2.wf, h2.env, h2.objs, .nil hbs⟩ h3
  cases en with
  | normal => exact key h4
  | ret => exact key h4
  | _ => exact h4.elim
end
section
variable {E : Ctx} {N : Nat} {ops : List Oper} {g : Nat} {Q : St → Prop} {st : St} {o : Oper} {rest : List Oper} {ds : List (Option Tmp)}
theorem aops_ecall {f : FuncId} {args args' : List D} {d : Nat} {S : D → Sto → Prop} (hds : ops.map (·.dst) = ds) (hw : wantL ds st.env o.guard = some true) (hd : o.dst = some d) (hc : calleeD o (ev E st.env) = some (f, args)) (h : EC E f args' [] g d S) (hco : CoL args args')
  (k : ∀ r τ', S r τ' → (∀ p ∈ st.σ, get τ' p.1 = none) → AOps E N ops g Q rest { env := (d, r) :: st.env, σ := st.σ ++ τ' }) : AOps E N ops g Q (o :: rest) st := by
 intro w0 hA G w a hN hr hg hnd hfr Q' hQ rr
 simp only [wpListIn]
 rw [if_pos (wantD_sound hr (by rw [← wantL_eq hds]; exact hw))]
 have hf := (hfr o (by simp) d hd).2
 obtain ⟨vs, hrun, hvs⟩ := call_run (e := ev E st.env) hc (fun x _ => hr.ev hA x) h.call
 have hvs' := Vs.co hvs hco
 have hown : ∀ p ∈ st.σ, get ([] : Sto) p.1 = none := fun p _ => rfl
 have e0 : get (st.σ ++ []) = get st.σ := by rw [List.append_nil]
 have ho0 : Objs w0 G w (get (st.σ ++ [])) := by rw [e0]; exact hr.objs
 have hrun2 := h.run w0 hA G w vs hr.wf hvs' (hr.objs.sub fun n o hn => by cases hn) ⟨hg, hf⟩
 refine op_enter hrun (Calls.mono hrun2 ?_) rr
 rintro en w' ⟨v, G', r, τ', rfl, hp, hw', hv, ho', hs⟩
 obtain ⟨h1, h2, h3⟩ := tail_frame hr.wf ho0 hown hs ho'
 rw [e0] at h3
 have hr' := hr.put' (v := r) (dst := o.dst) (σ := st.σ ++ τ') (h3.weaken (R' := rsv g o.dst) fun n _ hn => by rw [hd]; exact hn) rfl hw' h2 hv (fun d hd => by rw [hN]; exact (hfr o List.mem_cons_self d hd).1)
 have e1 : st.env' o.dst r (st.σ ++ τ') = { env := (d, r) :: st.env, σ := st.σ ++ τ' } := by rw [hd]; rfl
 rw [e1] at hr'
 have hnd' : (rest.filterMap (·.dst)).Nodup ∧ d ∉ rest.filterMap (·.dst) := by
  simp only [List.filterMap_cons, hd, List.nodup_cons] at hnd
  exact ⟨hnd.2, hnd.1⟩
 refine k r τ' hp h1 w0 hA G' w' _ (by rw [put_size, hN]) hr' (Nat.lt_of_lt_of_le hg h3.top) hnd'.1 (fun o' ho' d' hd' => ⟨(hfr o' (by simp [ho']) d' hd').1, fun j => h3.fresh hg ((hfr o' (by simp [ho']) d' hd').2 j) fun ⟨_, he⟩ => ?_⟩) Q' (fun G2 st2 a2 w2 k1 k2 k3 k4 => hQ G2 st2 a2 w2 k1 k2 ?_ k4) rr
 ·cases he
  exact hnd'.2 (List.mem_filterMap.2 ⟨o', ho', hd'⟩)
 ·exact (h3.weaken fun n _ hn => hn.1).trans k3
end
end Go.Ab
namespace Go.Ab
open Go Go.RowKit
theorem acalls_mclone {E : Ctx} {f : FuncId} (hcall : ∀ xs w, (callFunc f xs).run E.P w = .ok (.enter f xs) w)
  (hC : ∀ b es clock w, w.heap[b]? = some (.map es clock) → Calls E.P f #[.map (some b)] w fun e w' => e = .returned (.map (some w.heap.size)) ∧ w' = w.alloc (.map es clock)) (ks : KS) (es : List (Value × D)) (g d : Nat) :
  ACalls E f [.fmap ks es] [] g d (.mref ⟨g, d, 1⟩) [(⟨g, d, 1⟩, .map ks es)] where
 call := hcall
 run w0 hA G w vs hw hvs ho hfr := by
  obtain ⟨l⟩ := vs
  obtain ⟨h1, h2⟩ := hvs
  have h1' : l.length = 1 := h1
  match l, h1' with
  | [x], _ =>
   have hx := h2 0 x (.fmap ks es) rfl rfl
   cases hx with
   | fmap ms clock hF hh hborn k1 k2 k3 k4 =>
    refine (hC _ ms clock w hh).mono ?_
    rintro e w' ⟨rfl, rfl⟩
    have hnew := heap_alloc_n w (.map ms clock)
    have hsz : (w.alloc (.map ms clock)).heap.size = w.heap.size + 1 := World.size_alloc _ _
    obtain ⟨q1, q2, q3⟩ := new_obj hw ho (hfr.2 1) hfr.1 (v := .map (some w.heap.size)) (ob := .map ks es) (gr_alloc w _) (fun b hb => by simp [blk] at hb; omega)
     ⟨w.heap.size, ms, clock, rfl, hnew, hborn, k1, k2, k3, fun i m e' hm he => (k4 i m e' hm he).upd (hfr.2 1) fun b hF => heap_alloc_o w _ b (hw.lt b hF)⟩
    have he : Kp.or (single ⟨g, d, 1⟩ (.map ks es)) (get []) = get [(⟨g, d, 1⟩, .map ks es)] := by rw [← get_single, ← get_append]; rfl
    rw [he] at q2 q3
    exact ⟨_, _, rfl, q1, .mref (by simp [Gh.upd]), q2, q3.weaken fun n _ hn => by subst hn; exact ⟨rfl, rfl⟩⟩
theorem acalls_same {E : Ctx} {f : FuncId} {l : List Value} {v : Value} {g d : Nat} (hcall : ∀ xs w, (callFunc f xs).run E.P w = .ok (.enter f xs) w)
  (h : ∀ w, Calls E.P f l.toArray w fun e w' => e = .returned v ∧ w' = w) : ACalls E f (l.map .val) [] g d (.val v) [] :=
 acalls_grown hcall fun _ _ w _ => (h w).mono fun _ _ ⟨h1, h2⟩ => ⟨h1, 0, #[], by rw [h2, Sort.grow_empty]; rfl⟩
end Go.Ab
namespace Go.Proofs.T
open Go Go.Ab Go.RowKit
def errT : Value := .pointer (some ⟨1, 54, none⟩)
def LaidE (w : World) : Prop := w.cell? ⟨0, 0, none⟩ = some (.iface 172 (.agg #[errT]))
def globD : Nat → D
 | 0 => .eptr [.iface 172 (.agg [.val errT])]
 | _ => .any
theorem lt_of_cell {w : World} {a : Addr} {v : Value} (h : w.cell? a = some v) : a.block < w.heap.size := by
 rcases Nat.lt_or_ge a.block w.heap.size with h' | h'
 ·exact h'
 ·simp [World.cell?, Array.getElem?_eq_none h'] at h
theorem globD_ok (w0 : World) (hA : LaidE w0) (G : Gh) (w : World) (hw : WF w0 G w) : ∀ g, V G w (.pointer (some ⟨g, 0, none⟩)) (globD g)
 | 0 => by
  have h0 : (0 : Nat) < w0.heap.size := lt_of_cell hA
  refine .eptr (fun _ => .iface 172 (.agg #[errT])) (hw.old _ h0) (fun j d hj => ?_) (fun j d hj => ?_)
  ·rw [World.cell?_of_block (hw.below.block _ h0)]
   match j, hj with
   | 0, _ => exact hA
   | n + 1, hj => simp at hj
  ·match j, hj with
   | 0, hj =>
    cases hj
    exact .iface (.agg rfl fun i c d hc hd => by
     match i, hc, hd with
     | 0, hc, hd => cases hc; cases hd; exact .val _
     | n + 1, hc, hd => simp at hd)
   | n + 1, hj => simp at hj
 | n + 1 => .any _
noncomputable def E : Ctx := { P := Tryz.prog, A := LaidE, glob := globD, hglob := globD_ok, mixed := by kernel_rfl }
@[go_sem] theorem E_P : E.P = Tryz.prog := rfl
@[go_sem] theorem rnd_P : E.rnd.P = Tryz.prog := rfl
@[go_sem] theorem E_glob0 : E.glob 0 = .eptr [.iface 172 (.agg [.val errT])] := rfl
theorem E_keep : ∀ w0 w, E.A w0 → RowKit.Below w0.heap.size w0 w → E.A w := fun w0 w h hb => by
 have h0 : (0 : Nat) < w0.heap.size := lt_of_cell (show w0.cell? ⟨0, 0, none⟩ = _ from h)
 show w.cell? ⟨0, 0, none⟩ = _
 rw [World.cell?_of_block (hb.block _ h0)]
 exact h
@[go_sem] theorem sz0 : szOf Tryz.prog 0 = some 1 := by kernel_rfl
@[go_sem] theorem ag0 : aggOf Tryz.prog 0 = some false := by kernel_rfl
@[go_sem] theorem es0 : elemS Tryz.prog 0 = none := by kernel_rfl
@[go_sem] theorem ha0 : hasT Tryz.prog 0 = true := by kernel_rfl
@[go_sem] theorem ic0 : isIfc Tryz.prog 0 = false := by kernel_rfl
@[go_sem] theorem by0 : bytesOf Tryz.prog 0 = some 0 := by kernel_rfl
@[go_sem] theorem ha1 : hasT Tryz.prog 1 = true := by kernel_rfl
@[go_sem] theorem sz2 : szOf Tryz.prog 2 = some 1 := by kernel_rfl
@[go_sem] theorem ag2 : aggOf Tryz.prog 2 = some false := by kernel_rfl
@[go_sem] theorem es2 : elemS Tryz.prog 2 = none := by kernel_rfl
@[go_sem] theorem ha2 : hasT Tryz.prog 2 = true := by kernel_rfl
@[go_sem] theorem ic2 : isIfc Tryz.prog 2 = false := by kernel_rfl
@[go_sem] theorem io2 : intOfT Tryz.prog 2 = some .i64 := by kernel_rfl
@[go_sem] theorem by2 : bytesOf Tryz.prog 2 = some 8 := by kernel_rfl
@[go_sem] theorem ze2 : zeroOf Tryz.prog 2 = some (.int .i64 0) := by kernel_rfl
@[go_sem] theorem sz3 : szOf Tryz.prog 3 = some 1 := by kernel_rfl
@[go_sem] theorem ag3 : aggOf Tryz.prog 3 = some false := by kernel_rfl
@[go_sem] theorem es3 : elemS Tryz.prog 3 = none := by kernel_rfl
@[go_sem] theorem ha3 : hasT Tryz.prog 3 = true := by kernel_rfl
@[go_sem] theorem ic3 : isIfc Tryz.prog 3 = false := by kernel_rfl
@[go_sem] theorem io3 : intOfT Tryz.prog 3 = some .i64 := by kernel_rfl
@[go_sem] theorem by3 : bytesOf Tryz.prog 3 = some 8 := by kernel_rfl
@[go_sem] theorem ze3 : zeroOf Tryz.prog 3 = some (.int .i64 0) := by kernel_rfl
@[go_sem] theorem sz4 : szOf Tryz.prog 4 = some 1 := by kernel_rfl
@[go_sem] theorem ag4 : aggOf Tryz.prog 4 = some false := by kernel_rfl
@[go_sem] theorem es4 : elemS Tryz.prog 4 = none := by kernel_rfl
@[go_sem] theorem ha4 : hasT Tryz.prog 4 = true := by kernel_rfl
@[go_sem] theorem ic4 : isIfc Tryz.prog 4 = false := by kernel_rfl
@[go_sem] theorem by4 : bytesOf Tryz.prog 4 = some 1 := by kernel_rfl
@[go_sem] theorem ib4 : isBoolT Tryz.prog 4 = true := by kernel_rfl
@[go_sem] theorem ze4 : zeroOf Tryz.prog 4 = some (.bool false) := by kernel_rfl
@[go_sem] theorem sz5 : szOf Tryz.prog 5 = some 1 := by kernel_rfl
@[go_sem] theorem ag5 : aggOf Tryz.prog 5 = some false := by kernel_rfl
@[go_sem] theorem es5 : elemS Tryz.prog 5 = none := by kernel_rfl
@[go_sem] theorem ha5 : hasT Tryz.prog 5 = true := by kernel_rfl
@[go_sem] theorem ic5 : isIfc Tryz.prog 5 = false := by kernel_rfl
@[go_sem] theorem io5 : intOfT Tryz.prog 5 = some .u8 := by kernel_rfl
@[go_sem] theorem by5 : bytesOf Tryz.prog 5 = some 1 := by kernel_rfl
@[go_sem] theorem ze5 : zeroOf Tryz.prog 5 = some (.int .u8 0) := by kernel_rfl
@[go_sem] theorem sz6 : szOf Tryz.prog 6 = some 1 := by kernel_rfl
@[go_sem] theorem ag6 : aggOf Tryz.prog 6 = some false := by kernel_rfl
@[go_sem] theorem es6 : elemS Tryz.prog 6 = none := by kernel_rfl
@[go_sem] theorem ha6 : hasT Tryz.prog 6 = true := by kernel_rfl
@[go_sem] theorem ic6 : isIfc Tryz.prog 6 = false := by kernel_rfl
@[go_sem] theorem io6 : intOfT Tryz.prog 6 = some .u8 := by kernel_rfl
@[go_sem] theorem by6 : bytesOf Tryz.prog 6 = some 1 := by kernel_rfl
@[go_sem] theorem ze6 : zeroOf Tryz.prog 6 = some (.int .u8 0) := by kernel_rfl
@[go_sem] theorem sz7 : szOf Tryz.prog 7 = some 4 := by kernel_rfl
@[go_sem] theorem ag7 : aggOf Tryz.prog 7 = some true := by kernel_rfl
@[go_sem] theorem fl7_0 : fldOf Tryz.prog 7 0 = some (0, 2) := by kernel_rfl
@[go_sem] theorem fl7_1 : fldOf Tryz.prog 7 1 = some (1, 3) := by kernel_rfl
@[go_sem] theorem fl7_2 : fldOf Tryz.prog 7 2 = some (2, 4) := by kernel_rfl
@[go_sem] theorem fl7_3 : fldOf Tryz.prog 7 3 = some (3, 6) := by kernel_rfl
@[go_sem] theorem es7 : elemS Tryz.prog 7 = none := by kernel_rfl
@[go_sem] theorem ha7 : hasT Tryz.prog 7 = true := by kernel_rfl
@[go_sem] theorem ic7 : isIfc Tryz.prog 7 = false := by kernel_rfl
@[go_sem] theorem pl7 : placesOf Tryz.prog 7 = some [(0, 1), (1, 1), (2, 1), (3, 1)] := by kernel_rfl
@[go_sem] theorem by7 : bytesOf Tryz.prog 7 = some 24 := by kernel_rfl
@[go_sem] theorem eg7 : egOf Tryz.prog 7 = false := by kernel_rfl
@[go_sem] theorem ks7 : KS.of Tryz.prog 7 = some (.agg [(.num .i64), (.num .i64), .boo, (.num .u8)]) := by kernel_rfl
@[go_sem] theorem ze7 : zeroOf Tryz.prog 7 = some (.agg #[(.int .i64 0), (.int .i64 0), (.bool false), (.int .u8 0)]) := by kernel_rfl
@[go_sem] theorem sz9 : szOf Tryz.prog 9 = some 1 := by kernel_rfl
@[go_sem] theorem ag9 : aggOf Tryz.prog 9 = some false := by kernel_rfl
@[go_sem] theorem es9 : elemS Tryz.prog 9 = none := by kernel_rfl
@[go_sem] theorem ha9 : hasT Tryz.prog 9 = true := by kernel_rfl
@[go_sem] theorem st9 : isStr Tryz.prog 9 = true := by kernel_rfl
@[go_sem] theorem ic9 : isIfc Tryz.prog 9 = false := by kernel_rfl
@[go_sem] theorem by9 : bytesOf Tryz.prog 9 = some 16 := by kernel_rfl
@[go_sem] theorem ze9 : zeroOf Tryz.prog 9 = some (.string ByteArray.empty) := by kernel_rfl
@[go_sem] theorem sz17 : szOf Tryz.prog 17 = some 1 := by kernel_rfl
@[go_sem] theorem ag17 : aggOf Tryz.prog 17 = some false := by kernel_rfl
@[go_sem] theorem es17 : elemS Tryz.prog 17 = none := by kernel_rfl
@[go_sem] theorem ha17 : hasT Tryz.prog 17 = true := by kernel_rfl
@[go_sem] theorem ic17 : isIfc Tryz.prog 17 = false := by kernel_rfl
@[go_sem] theorem by17 : bytesOf Tryz.prog 17 = some 8 := by kernel_rfl
@[go_sem] theorem ip17 : isPtrT Tryz.prog 17 = true := by kernel_rfl
@[go_sem] theorem ze17 : zeroOf Tryz.prog 17 = some (.pointer none) := by kernel_rfl
@[go_sem] theorem sz20 : szOf Tryz.prog 20 = some 1 := by kernel_rfl
@[go_sem] theorem ag20 : aggOf Tryz.prog 20 = some false := by kernel_rfl
@[go_sem] theorem es20 : elemS Tryz.prog 20 = none := by kernel_rfl
@[go_sem] theorem ha20 : hasT Tryz.prog 20 = true := by kernel_rfl
@[go_sem] theorem ic20 : isIfc Tryz.prog 20 = true := by kernel_rfl
@[go_sem] theorem by20 : bytesOf Tryz.prog 20 = some 16 := by kernel_rfl
@[go_sem] theorem ze20 : zeroOf Tryz.prog 20 = some .nilIface := by kernel_rfl
@[go_sem] theorem sz22 : szOf Tryz.prog 22 = some 1 := by kernel_rfl
@[go_sem] theorem ag22 : aggOf Tryz.prog 22 = some false := by kernel_rfl
@[go_sem] theorem es22 : elemS Tryz.prog 22 = some 71 := by kernel_rfl
@[go_sem] theorem ha22 : hasT Tryz.prog 22 = true := by kernel_rfl
@[go_sem] theorem ic22 : isIfc Tryz.prog 22 = false := by kernel_rfl
@[go_sem] theorem by22 : bytesOf Tryz.prog 22 = some 24 := by kernel_rfl
@[go_sem] theorem ze22 : zeroOf Tryz.prog 22 = some (.slice none 0 0) := by kernel_rfl
@[go_sem] theorem sz23 : szOf Tryz.prog 23 = some 1 := by kernel_rfl
@[go_sem] theorem ag23 : aggOf Tryz.prog 23 = some false := by kernel_rfl
@[go_sem] theorem es23 : elemS Tryz.prog 23 = some 25 := by kernel_rfl
@[go_sem] theorem ha23 : hasT Tryz.prog 23 = true := by kernel_rfl
@[go_sem] theorem ic23 : isIfc Tryz.prog 23 = false := by kernel_rfl
@[go_sem] theorem by23 : bytesOf Tryz.prog 23 = some 24 := by kernel_rfl
@[go_sem] theorem ze23 : zeroOf Tryz.prog 23 = some (.slice none 0 0) := by kernel_rfl
@[go_sem] theorem sz25 : szOf Tryz.prog 25 = some 3 := by kernel_rfl
@[go_sem] theorem ag25 : aggOf Tryz.prog 25 = some true := by kernel_rfl
@[go_sem] theorem fl25_0 : fldOf Tryz.prog 25 0 = some (0, 9) := by kernel_rfl
@[go_sem] theorem fl25_1 : fldOf Tryz.prog 25 1 = some (1, 23) := by kernel_rfl
@[go_sem] theorem fl25_2 : fldOf Tryz.prog 25 2 = some (2, 3) := by kernel_rfl
@[go_sem] theorem es25 : elemS Tryz.prog 25 = none := by kernel_rfl
@[go_sem] theorem ha25 : hasT Tryz.prog 25 = true := by kernel_rfl
@[go_sem] theorem ic25 : isIfc Tryz.prog 25 = false := by kernel_rfl
@[go_sem] theorem pl25 : placesOf Tryz.prog 25 = some [(0, 1), (1, 1), (2, 1)] := by kernel_rfl
@[go_sem] theorem by25 : bytesOf Tryz.prog 25 = some 48 := by kernel_rfl
@[go_sem] theorem ze25 : zeroOf Tryz.prog 25 = some (.agg #[(.string ByteArray.empty), (.slice none 0 0), (.int .i64 0)]) := by kernel_rfl
@[go_sem] theorem sz26 : szOf Tryz.prog 26 = some 1 := by kernel_rfl
@[go_sem] theorem ag26 : aggOf Tryz.prog 26 = some false := by kernel_rfl
@[go_sem] theorem es26 : elemS Tryz.prog 26 = some 28 := by kernel_rfl
@[go_sem] theorem ha26 : hasT Tryz.prog 26 = true := by kernel_rfl
@[go_sem] theorem ic26 : isIfc Tryz.prog 26 = false := by kernel_rfl
@[go_sem] theorem by26 : bytesOf Tryz.prog 26 = some 24 := by kernel_rfl
@[go_sem] theorem ze26 : zeroOf Tryz.prog 26 = some (.slice none 0 0) := by kernel_rfl
@[go_sem] theorem sz28 : szOf Tryz.prog 28 = some 8 := by kernel_rfl
@[go_sem] theorem ag28 : aggOf Tryz.prog 28 = some true := by kernel_rfl
@[go_sem] theorem fl28_0 : fldOf Tryz.prog 28 0 = some (0, 3) := by kernel_rfl
@[go_sem] theorem fl28_1 : fldOf Tryz.prog 28 1 = some (1, 9) := by kernel_rfl
@[go_sem] theorem fl28_2 : fldOf Tryz.prog 28 2 = some (2, 25) := by kernel_rfl
@[go_sem] theorem fl28_3 : fldOf Tryz.prog 28 3 = some (5, 23) := by kernel_rfl
@[go_sem] theorem fl28_4 : fldOf Tryz.prog 28 4 = some (6, 26) := by kernel_rfl
@[go_sem] theorem fl28_5 : fldOf Tryz.prog 28 5 = some (7, 3) := by kernel_rfl
@[go_sem] theorem es28 : elemS Tryz.prog 28 = none := by kernel_rfl
@[go_sem] theorem ha28 : hasT Tryz.prog 28 = true := by kernel_rfl
@[go_sem] theorem ic28 : isIfc Tryz.prog 28 = false := by kernel_rfl
@[go_sem] theorem pl28 : placesOf Tryz.prog 28 = some [(0, 1), (1, 1), (2, 3), (5, 1), (6, 1), (7, 1)] := by kernel_rfl
@[go_sem] theorem by28 : bytesOf Tryz.prog 28 = some 128 := by kernel_rfl
@[go_sem] theorem ze28 : zeroOf Tryz.prog 28 = some (.agg #[(.int .i64 0), (.string ByteArray.empty), (.string ByteArray.empty), (.slice none 0 0), (.int .i64 0), (.slice none 0 0), (.slice none 0 0), (.int .i64 0)]) := by kernel_rfl
@[go_sem] theorem sz30 : szOf Tryz.prog 30 = some 9 := by kernel_rfl
@[go_sem] theorem ag30 : aggOf Tryz.prog 30 = some true := by kernel_rfl
@[go_sem] theorem fl30_0 : fldOf Tryz.prog 30 0 = some (0, 22) := by kernel_rfl
@[go_sem] theorem fl30_1 : fldOf Tryz.prog 30 1 = some (1, 28) := by kernel_rfl
@[go_sem] theorem es30 : elemS Tryz.prog 30 = none := by kernel_rfl
@[go_sem] theorem ha30 : hasT Tryz.prog 30 = true := by kernel_rfl
@[go_sem] theorem ic30 : isIfc Tryz.prog 30 = false := by kernel_rfl
@[go_sem] theorem pl30 : placesOf Tryz.prog 30 = some [(0, 1), (1, 8)] := by kernel_rfl
@[go_sem] theorem by30 : bytesOf Tryz.prog 30 = some 152 := by kernel_rfl
@[go_sem] theorem ze30 : zeroOf Tryz.prog 30 = some (.agg #[(.slice none 0 0), (.int .i64 0), (.string ByteArray.empty), (.string ByteArray.empty), (.slice none 0 0), (.int .i64 0), (.slice none 0 0), (.slice none 0 0), (.int .i64 0)]) := by kernel_rfl
@[go_sem] theorem sz32 : szOf Tryz.prog 32 = some 3 := by kernel_rfl
@[go_sem] theorem ag32 : aggOf Tryz.prog 32 = some true := by kernel_rfl
@[go_sem] theorem fl32_0 : fldOf Tryz.prog 32 0 = some (0, 4) := by kernel_rfl
@[go_sem] theorem fl32_1 : fldOf Tryz.prog 32 1 = some (1, 9) := by kernel_rfl
@[go_sem] theorem fl32_2 : fldOf Tryz.prog 32 2 = some (2, 3) := by kernel_rfl
@[go_sem] theorem es32 : elemS Tryz.prog 32 = none := by kernel_rfl
@[go_sem] theorem ha32 : hasT Tryz.prog 32 = true := by kernel_rfl
@[go_sem] theorem ic32 : isIfc Tryz.prog 32 = false := by kernel_rfl
@[go_sem] theorem pl32 : placesOf Tryz.prog 32 = some [(0, 1), (1, 1), (2, 1)] := by kernel_rfl
@[go_sem] theorem by32 : bytesOf Tryz.prog 32 = some 32 := by kernel_rfl
@[go_sem] theorem eg32 : egOf Tryz.prog 32 = false := by kernel_rfl
@[go_sem] theorem ks32 : KS.of Tryz.prog 32 = some (.agg [.boo, .str, (.num .i64)]) := by kernel_rfl
@[go_sem] theorem ze32 : zeroOf Tryz.prog 32 = some (.agg #[(.bool false), (.string ByteArray.empty), (.int .i64 0)]) := by kernel_rfl
@[go_sem] theorem sz35 : szOf Tryz.prog 35 = some 1 := by kernel_rfl
@[go_sem] theorem ag35 : aggOf Tryz.prog 35 = some false := by kernel_rfl
@[go_sem] theorem es35 : elemS Tryz.prog 35 = some 37 := by kernel_rfl
@[go_sem] theorem ha35 : hasT Tryz.prog 35 = true := by kernel_rfl
@[go_sem] theorem ic35 : isIfc Tryz.prog 35 = false := by kernel_rfl
@[go_sem] theorem by35 : bytesOf Tryz.prog 35 = some 24 := by kernel_rfl
@[go_sem] theorem ze35 : zeroOf Tryz.prog 35 = some (.slice none 0 0) := by kernel_rfl
@[go_sem] theorem sz37 : szOf Tryz.prog 37 = some 3 := by kernel_rfl
@[go_sem] theorem ag37 : aggOf Tryz.prog 37 = some true := by kernel_rfl
@[go_sem] theorem fl37_0 : fldOf Tryz.prog 37 0 = some (0, 4) := by kernel_rfl
@[go_sem] theorem fl37_1 : fldOf Tryz.prog 37 1 = some (1, 9) := by kernel_rfl
@[go_sem] theorem fl37_2 : fldOf Tryz.prog 37 2 = some (2, 3) := by kernel_rfl
@[go_sem] theorem es37 : elemS Tryz.prog 37 = none := by kernel_rfl
@[go_sem] theorem ha37 : hasT Tryz.prog 37 = true := by kernel_rfl
@[go_sem] theorem ic37 : isIfc Tryz.prog 37 = false := by kernel_rfl
@[go_sem] theorem pl37 : placesOf Tryz.prog 37 = some [(0, 1), (1, 1), (2, 1)] := by kernel_rfl
@[go_sem] theorem by37 : bytesOf Tryz.prog 37 = some 32 := by kernel_rfl
@[go_sem] theorem eg37 : egOf Tryz.prog 37 = false := by kernel_rfl
@[go_sem] theorem ks37 : KS.of Tryz.prog 37 = some (.agg [.boo, .str, (.num .i64)]) := by kernel_rfl
@[go_sem] theorem ze37 : zeroOf Tryz.prog 37 = some (.agg #[(.bool false), (.string ByteArray.empty), (.int .i64 0)]) := by kernel_rfl
@[go_sem] theorem sz38 : szOf Tryz.prog 38 = some 1 := by kernel_rfl
@[go_sem] theorem ag38 : aggOf Tryz.prog 38 = some false := by kernel_rfl
@[go_sem] theorem es38 : elemS Tryz.prog 38 = some 32 := by kernel_rfl
@[go_sem] theorem ha38 : hasT Tryz.prog 38 = true := by kernel_rfl
@[go_sem] theorem ic38 : isIfc Tryz.prog 38 = false := by kernel_rfl
@[go_sem] theorem by38 : bytesOf Tryz.prog 38 = some 24 := by kernel_rfl
@[go_sem] theorem ze38 : zeroOf Tryz.prog 38 = some (.slice none 0 0) := by kernel_rfl
@[go_sem] theorem sz40 : szOf Tryz.prog 40 = some 1 := by kernel_rfl
@[go_sem] theorem ag40 : aggOf Tryz.prog 40 = some false := by kernel_rfl
@[go_sem] theorem es40 : elemS Tryz.prog 40 = some 50 := by kernel_rfl
@[go_sem] theorem ha40 : hasT Tryz.prog 40 = true := by kernel_rfl
@[go_sem] theorem ic40 : isIfc Tryz.prog 40 = false := by kernel_rfl
@[go_sem] theorem by40 : bytesOf Tryz.prog 40 = some 24 := by kernel_rfl
@[go_sem] theorem ze40 : zeroOf Tryz.prog 40 = some (.slice none 0 0) := by kernel_rfl
@[go_sem] theorem sz47 : szOf Tryz.prog 47 = some 1 := by kernel_rfl
@[go_sem] theorem ag47 : aggOf Tryz.prog 47 = some false := by kernel_rfl
@[go_sem] theorem es47 : elemS Tryz.prog 47 = some 78 := by kernel_rfl
@[go_sem] theorem ha47 : hasT Tryz.prog 47 = true := by kernel_rfl
@[go_sem] theorem ic47 : isIfc Tryz.prog 47 = false := by kernel_rfl
@[go_sem] theorem by47 : bytesOf Tryz.prog 47 = some 24 := by kernel_rfl
@[go_sem] theorem ze47 : zeroOf Tryz.prog 47 = some (.slice none 0 0) := by kernel_rfl
@[go_sem] theorem sz50 : szOf Tryz.prog 50 = some 7 := by kernel_rfl
@[go_sem] theorem ag50 : aggOf Tryz.prog 50 = some true := by kernel_rfl
@[go_sem] theorem fl50_0 : fldOf Tryz.prog 50 0 = some (0, 32) := by kernel_rfl
@[go_sem] theorem fl50_1 : fldOf Tryz.prog 50 1 = some (3, 32) := by kernel_rfl
@[go_sem] theorem fl50_2 : fldOf Tryz.prog 50 2 = some (6, 4) := by kernel_rfl
@[go_sem] theorem es50 : elemS Tryz.prog 50 = none := by kernel_rfl
@[go_sem] theorem ha50 : hasT Tryz.prog 50 = true := by kernel_rfl
@[go_sem] theorem ic50 : isIfc Tryz.prog 50 = false := by kernel_rfl
@[go_sem] theorem pl50 : placesOf Tryz.prog 50 = some [(0, 3), (3, 3), (6, 1)] := by kernel_rfl
@[go_sem] theorem by50 : bytesOf Tryz.prog 50 = some 72 := by kernel_rfl
@[go_sem] theorem eg50 : egOf Tryz.prog 50 = false := by kernel_rfl
@[go_sem] theorem ks50 : KS.of Tryz.prog 50 = some (.agg [.boo, .str, (.num .i64), .boo, .str, (.num .i64), .boo]) := by kernel_rfl
@[go_sem] theorem ze50 : zeroOf Tryz.prog 50 = some (.agg #[(.bool false), (.string ByteArray.empty), (.int .i64 0), (.bool false), (.string ByteArray.empty), (.int .i64 0), (.bool false)]) := by kernel_rfl
@[go_sem] theorem sz54 : szOf Tryz.prog 54 = some 1 := by kernel_rfl
@[go_sem] theorem ag54 : aggOf Tryz.prog 54 = some false := by kernel_rfl
@[go_sem] theorem es54 : elemS Tryz.prog 54 = none := by kernel_rfl
@[go_sem] theorem ha54 : hasT Tryz.prog 54 = true := by kernel_rfl
@[go_sem] theorem ic54 : isIfc Tryz.prog 54 = true := by kernel_rfl
@[go_sem] theorem by54 : bytesOf Tryz.prog 54 = some 16 := by kernel_rfl
@[go_sem] theorem ze54 : zeroOf Tryz.prog 54 = some .nilIface := by kernel_rfl
@[go_sem] theorem sz55 : szOf Tryz.prog 55 = some 1 := by kernel_rfl
@[go_sem] theorem ag55 : aggOf Tryz.prog 55 = some false := by kernel_rfl
@[go_sem] theorem es55 : elemS Tryz.prog 55 = none := by kernel_rfl
@[go_sem] theorem ha55 : hasT Tryz.prog 55 = true := by kernel_rfl
@[go_sem] theorem ic55 : isIfc Tryz.prog 55 = false := by kernel_rfl
@[go_sem] theorem by55 : bytesOf Tryz.prog 55 = some 8 := by kernel_rfl
@[go_sem] theorem ze55 : zeroOf Tryz.prog 55 = some .nilFunc := by kernel_rfl
@[go_sem] theorem sz56 : szOf Tryz.prog 56 = some 1 := by kernel_rfl
@[go_sem] theorem ag56 : aggOf Tryz.prog 56 = some false := by kernel_rfl
@[go_sem] theorem es56 : elemS Tryz.prog 56 = none := by kernel_rfl
@[go_sem] theorem ha56 : hasT Tryz.prog 56 = true := by kernel_rfl
@[go_sem] theorem ic56 : isIfc Tryz.prog 56 = false := by kernel_rfl
@[go_sem] theorem io56 : intOfT Tryz.prog 56 = some .i64 := by kernel_rfl
@[go_sem] theorem by56 : bytesOf Tryz.prog 56 = some 8 := by kernel_rfl
@[go_sem] theorem ze56 : zeroOf Tryz.prog 56 = some (.int .i64 0) := by kernel_rfl
@[go_sem] theorem sz57 : szOf Tryz.prog 57 = some 1 := by kernel_rfl
@[go_sem] theorem ag57 : aggOf Tryz.prog 57 = some false := by kernel_rfl
@[go_sem] theorem es57 : elemS Tryz.prog 57 = none := by kernel_rfl
@[go_sem] theorem ha57 : hasT Tryz.prog 57 = true := by kernel_rfl
@[go_sem] theorem ic57 : isIfc Tryz.prog 57 = false := by kernel_rfl
@[go_sem] theorem by57 : bytesOf Tryz.prog 57 = some 0 := by kernel_rfl
@[go_sem] theorem sz59 : szOf Tryz.prog 59 = some 1 := by kernel_rfl
@[go_sem] theorem ag59 : aggOf Tryz.prog 59 = some false := by kernel_rfl
@[go_sem] theorem es59 : elemS Tryz.prog 59 = none := by kernel_rfl
@[go_sem] theorem ha59 : hasT Tryz.prog 59 = true := by kernel_rfl
@[go_sem] theorem ic59 : isIfc Tryz.prog 59 = false := by kernel_rfl
@[go_sem] theorem by59 : bytesOf Tryz.prog 59 = some 0 := by kernel_rfl
@[go_sem] theorem sz63 : szOf Tryz.prog 63 = some 5 := by kernel_rfl
@[go_sem] theorem ag63 : aggOf Tryz.prog 63 = some true := by kernel_rfl
@[go_sem] theorem fl63_0 : fldOf Tryz.prog 63 0 = some (0, 9) := by kernel_rfl
@[go_sem] theorem fl63_1 : fldOf Tryz.prog 63 1 = some (1, 25) := by kernel_rfl
@[go_sem] theorem fl63_2 : fldOf Tryz.prog 63 2 = some (4, 3) := by kernel_rfl
@[go_sem] theorem es63 : elemS Tryz.prog 63 = none := by kernel_rfl
@[go_sem] theorem ha63 : hasT Tryz.prog 63 = true := by kernel_rfl
@[go_sem] theorem ic63 : isIfc Tryz.prog 63 = false := by kernel_rfl
@[go_sem] theorem pl63 : placesOf Tryz.prog 63 = some [(0, 1), (1, 3), (4, 1)] := by kernel_rfl
@[go_sem] theorem by63 : bytesOf Tryz.prog 63 = some 72 := by kernel_rfl
@[go_sem] theorem ze63 : zeroOf Tryz.prog 63 = some (.agg #[(.string ByteArray.empty), (.string ByteArray.empty), (.slice none 0 0), (.int .i64 0), (.int .i64 0)]) := by kernel_rfl
@[go_sem] theorem sz64 : szOf Tryz.prog 64 = some 1 := by kernel_rfl
@[go_sem] theorem ag64 : aggOf Tryz.prog 64 = some false := by kernel_rfl
@[go_sem] theorem es64 : elemS Tryz.prog 64 = some 63 := by kernel_rfl
@[go_sem] theorem ha64 : hasT Tryz.prog 64 = true := by kernel_rfl
@[go_sem] theorem ic64 : isIfc Tryz.prog 64 = false := by kernel_rfl
@[go_sem] theorem by64 : bytesOf Tryz.prog 64 = some 24 := by kernel_rfl
@[go_sem] theorem ze64 : zeroOf Tryz.prog 64 = some (.slice none 0 0) := by kernel_rfl
@[go_sem] theorem sz65 : szOf Tryz.prog 65 = some 1 := by kernel_rfl
@[go_sem] theorem ag65 : aggOf Tryz.prog 65 = some false := by kernel_rfl
@[go_sem] theorem es65 : elemS Tryz.prog 65 = some 118 := by kernel_rfl
@[go_sem] theorem ha65 : hasT Tryz.prog 65 = true := by kernel_rfl
@[go_sem] theorem ic65 : isIfc Tryz.prog 65 = false := by kernel_rfl
@[go_sem] theorem by65 : bytesOf Tryz.prog 65 = some 24 := by kernel_rfl
@[go_sem] theorem ze65 : zeroOf Tryz.prog 65 = some (.slice none 0 0) := by kernel_rfl
@[go_sem] theorem sz66 : szOf Tryz.prog 66 = some 1 := by kernel_rfl
@[go_sem] theorem ag66 : aggOf Tryz.prog 66 = some false := by kernel_rfl
@[go_sem] theorem es66 : elemS Tryz.prog 66 = some 69 := by kernel_rfl
@[go_sem] theorem ha66 : hasT Tryz.prog 66 = true := by kernel_rfl
@[go_sem] theorem ic66 : isIfc Tryz.prog 66 = false := by kernel_rfl
@[go_sem] theorem by66 : bytesOf Tryz.prog 66 = some 24 := by kernel_rfl
@[go_sem] theorem ze66 : zeroOf Tryz.prog 66 = some (.slice none 0 0) := by kernel_rfl
@[go_sem] theorem sz67 : szOf Tryz.prog 67 = some 1 := by kernel_rfl
@[go_sem] theorem ag67 : aggOf Tryz.prog 67 = some false := by kernel_rfl
@[go_sem] theorem es67 : elemS Tryz.prog 67 = some 9 := by kernel_rfl
@[go_sem] theorem ha67 : hasT Tryz.prog 67 = true := by kernel_rfl
@[go_sem] theorem ic67 : isIfc Tryz.prog 67 = false := by kernel_rfl
@[go_sem] theorem by67 : bytesOf Tryz.prog 67 = some 24 := by kernel_rfl
@[go_sem] theorem ze67 : zeroOf Tryz.prog 67 = some (.slice none 0 0) := by kernel_rfl
@[go_sem] theorem sz69 : szOf Tryz.prog 69 = some 7 := by kernel_rfl
@[go_sem] theorem ag69 : aggOf Tryz.prog 69 = some true := by kernel_rfl
@[go_sem] theorem fl69_0 : fldOf Tryz.prog 69 0 = some (0, 9) := by kernel_rfl
@[go_sem] theorem fl69_1 : fldOf Tryz.prog 69 1 = some (1, 64) := by kernel_rfl
@[go_sem] theorem fl69_2 : fldOf Tryz.prog 69 2 = some (2, 65) := by kernel_rfl
@[go_sem] theorem fl69_3 : fldOf Tryz.prog 69 3 = some (3, 25) := by kernel_rfl
@[go_sem] theorem fl69_4 : fldOf Tryz.prog 69 4 = some (6, 3) := by kernel_rfl
@[go_sem] theorem es69 : elemS Tryz.prog 69 = none := by kernel_rfl
@[go_sem] theorem ha69 : hasT Tryz.prog 69 = true := by kernel_rfl
@[go_sem] theorem ic69 : isIfc Tryz.prog 69 = false := by kernel_rfl
@[go_sem] theorem pl69 : placesOf Tryz.prog 69 = some [(0, 1), (1, 1), (2, 1), (3, 3), (6, 1)] := by kernel_rfl
@[go_sem] theorem by69 : bytesOf Tryz.prog 69 = some 120 := by kernel_rfl
@[go_sem] theorem ze69 : zeroOf Tryz.prog 69 = some (.agg #[(.string ByteArray.empty), (.slice none 0 0), (.slice none 0 0), (.string ByteArray.empty), (.slice none 0 0), (.int .i64 0), (.int .i64 0)]) := by kernel_rfl
@[go_sem] theorem sz71 : szOf Tryz.prog 71 = some 23 := by kernel_rfl
@[go_sem] theorem ag71 : aggOf Tryz.prog 71 = some true := by kernel_rfl
@[go_sem] theorem fl71_0 : fldOf Tryz.prog 71 0 = some (0, 3) := by kernel_rfl
@[go_sem] theorem fl71_1 : fldOf Tryz.prog 71 1 = some (1, 9) := by kernel_rfl
@[go_sem] theorem fl71_2 : fldOf Tryz.prog 71 2 = some (2, 64) := by kernel_rfl
@[go_sem] theorem fl71_3 : fldOf Tryz.prog 71 3 = some (3, 65) := by kernel_rfl
@[go_sem] theorem fl71_4 : fldOf Tryz.prog 71 4 = some (4, 66) := by kernel_rfl
@[go_sem] theorem fl71_5 : fldOf Tryz.prog 71 5 = some (5, 9) := by kernel_rfl
@[go_sem] theorem fl71_6 : fldOf Tryz.prog 71 6 = some (6, 67) := by kernel_rfl
@[go_sem] theorem fl71_7 : fldOf Tryz.prog 71 7 = some (7, 69) := by kernel_rfl
@[go_sem] theorem fl71_8 : fldOf Tryz.prog 71 8 = some (14, 28) := by kernel_rfl
@[go_sem] theorem fl71_9 : fldOf Tryz.prog 71 9 = some (22, 3) := by kernel_rfl
@[go_sem] theorem es71 : elemS Tryz.prog 71 = none := by kernel_rfl
@[go_sem] theorem ha71 : hasT Tryz.prog 71 = true := by kernel_rfl
@[go_sem] theorem ic71 : isIfc Tryz.prog 71 = false := by kernel_rfl
@[go_sem] theorem pl71 : placesOf Tryz.prog 71 = some [(0, 1), (1, 1), (2, 1), (3, 1), (4, 1), (5, 1), (6, 1), (7, 7), (14, 8), (22, 1)] := by kernel_rfl
@[go_sem] theorem by71 : bytesOf Tryz.prog 71 = some 392 := by kernel_rfl
@[go_sem] theorem ze71 : zeroOf Tryz.prog 71 = some (.agg #[(.int .i64 0), (.string ByteArray.empty), (.slice none 0 0), (.slice none 0 0), (.slice none 0 0), (.string ByteArray.empty), (.slice none 0 0), (.string ByteArray.empty), (.slice none 0 0), (.slice none 0 0), (.string ByteArray.empty), (.slice none 0 0), (.int .i64 0), (.int .i64 0), (.int .i64 0), (.string ByteArray.empty), (.string ByteArray.empty), (.slice none 0 0), (.int .i64 0), (.slice none 0 0), (.slice none 0 0), (.int .i64 0), (.int .i64 0)]) := by kernel_rfl
@[go_sem] theorem sz73 : szOf Tryz.prog 73 = some 1 := by kernel_rfl
@[go_sem] theorem ag73 : aggOf Tryz.prog 73 = some false := by kernel_rfl
@[go_sem] theorem es73 : elemS Tryz.prog 73 = none := by kernel_rfl
@[go_sem] theorem ha73 : hasT Tryz.prog 73 = true := by kernel_rfl
@[go_sem] theorem ic73 : isIfc Tryz.prog 73 = false := by kernel_rfl
@[go_sem] theorem by73 : bytesOf Tryz.prog 73 = some 8 := by kernel_rfl
@[go_sem] theorem ze73 : zeroOf Tryz.prog 73 = some .nilFunc := by kernel_rfl
@[go_sem] theorem sz74 : szOf Tryz.prog 74 = some 1 := by kernel_rfl
@[go_sem] theorem ag74 : aggOf Tryz.prog 74 = some false := by kernel_rfl
@[go_sem] theorem es74 : elemS Tryz.prog 74 = none := by kernel_rfl
@[go_sem] theorem ha74 : hasT Tryz.prog 74 = true := by kernel_rfl
@[go_sem] theorem ic74 : isIfc Tryz.prog 74 = false := by kernel_rfl
@[go_sem] theorem by74 : bytesOf Tryz.prog 74 = some 8 := by kernel_rfl
@[go_sem] theorem ze74 : zeroOf Tryz.prog 74 = some .nilFunc := by kernel_rfl
@[go_sem] theorem sz76 : szOf Tryz.prog 76 = some 1 := by kernel_rfl
@[go_sem] theorem ag76 : aggOf Tryz.prog 76 = some false := by kernel_rfl
@[go_sem] theorem es76 : elemS Tryz.prog 76 = none := by kernel_rfl
@[go_sem] theorem ha76 : hasT Tryz.prog 76 = true := by kernel_rfl
@[go_sem] theorem ic76 : isIfc Tryz.prog 76 = false := by kernel_rfl
@[go_sem] theorem by76 : bytesOf Tryz.prog 76 = some 8 := by kernel_rfl
@[go_sem] theorem mp76 : mapT Tryz.prog 76 = some (37, 78) := by kernel_rfl
@[go_sem] theorem ze76 : zeroOf Tryz.prog 76 = some (.map none) := by kernel_rfl
@[go_sem] theorem sz78 : szOf Tryz.prog 78 = some 7 := by kernel_rfl
@[go_sem] theorem ag78 : aggOf Tryz.prog 78 = some true := by kernel_rfl
@[go_sem] theorem fl78_0 : fldOf Tryz.prog 78 0 = some (0, 37) := by kernel_rfl
@[go_sem] theorem fl78_1 : fldOf Tryz.prog 78 1 = some (3, 37) := by kernel_rfl
@[go_sem] theorem fl78_2 : fldOf Tryz.prog 78 2 = some (6, 4) := by kernel_rfl
@[go_sem] theorem es78 : elemS Tryz.prog 78 = none := by kernel_rfl
@[go_sem] theorem ha78 : hasT Tryz.prog 78 = true := by kernel_rfl
@[go_sem] theorem ic78 : isIfc Tryz.prog 78 = false := by kernel_rfl
@[go_sem] theorem pl78 : placesOf Tryz.prog 78 = some [(0, 3), (3, 3), (6, 1)] := by kernel_rfl
@[go_sem] theorem by78 : bytesOf Tryz.prog 78 = some 72 := by kernel_rfl
@[go_sem] theorem eg78 : egOf Tryz.prog 78 = false := by kernel_rfl
@[go_sem] theorem ks78 : KS.of Tryz.prog 78 = some (.agg [.boo, .str, (.num .i64), .boo, .str, (.num .i64), .boo]) := by kernel_rfl
@[go_sem] theorem ze78 : zeroOf Tryz.prog 78 = some (.agg #[(.bool false), (.string ByteArray.empty), (.int .i64 0), (.bool false), (.string ByteArray.empty), (.int .i64 0), (.bool false)]) := by kernel_rfl
@[go_sem] theorem sz80 : szOf Tryz.prog 80 = some 1 := by kernel_rfl
@[go_sem] theorem ag80 : aggOf Tryz.prog 80 = some false := by kernel_rfl
@[go_sem] theorem es80 : elemS Tryz.prog 80 = none := by kernel_rfl
@[go_sem] theorem ha80 : hasT Tryz.prog 80 = true := by kernel_rfl
@[go_sem] theorem ic80 : isIfc Tryz.prog 80 = false := by kernel_rfl
@[go_sem] theorem by80 : bytesOf Tryz.prog 80 = some 8 := by kernel_rfl
@[go_sem] theorem ze80 : zeroOf Tryz.prog 80 = some .nilFunc := by kernel_rfl
@[go_sem] theorem sz86 : szOf Tryz.prog 86 = some 1 := by kernel_rfl
@[go_sem] theorem ag86 : aggOf Tryz.prog 86 = some false := by kernel_rfl
@[go_sem] theorem es86 : elemS Tryz.prog 86 = none := by kernel_rfl
@[go_sem] theorem ha86 : hasT Tryz.prog 86 = true := by kernel_rfl
@[go_sem] theorem ic86 : isIfc Tryz.prog 86 = false := by kernel_rfl
@[go_sem] theorem by86 : bytesOf Tryz.prog 86 = some 8 := by kernel_rfl
@[go_sem] theorem ze86 : zeroOf Tryz.prog 86 = some .nilFunc := by kernel_rfl
@[go_sem] theorem sz90 : szOf Tryz.prog 90 = some 1 := by kernel_rfl
@[go_sem] theorem ag90 : aggOf Tryz.prog 90 = some false := by kernel_rfl
@[go_sem] theorem es90 : elemS Tryz.prog 90 = none := by kernel_rfl
@[go_sem] theorem ha90 : hasT Tryz.prog 90 = true := by kernel_rfl
@[go_sem] theorem ic90 : isIfc Tryz.prog 90 = false := by kernel_rfl
@[go_sem] theorem by90 : bytesOf Tryz.prog 90 = some 8 := by kernel_rfl
@[go_sem] theorem ze90 : zeroOf Tryz.prog 90 = some .nilFunc := by kernel_rfl
@[go_sem] theorem sz95 : szOf Tryz.prog 95 = some 1 := by kernel_rfl
@[go_sem] theorem ag95 : aggOf Tryz.prog 95 = some false := by kernel_rfl
@[go_sem] theorem es95 : elemS Tryz.prog 95 = none := by kernel_rfl
@[go_sem] theorem ha95 : hasT Tryz.prog 95 = true := by kernel_rfl
@[go_sem] theorem ic95 : isIfc Tryz.prog 95 = false := by kernel_rfl
@[go_sem] theorem by95 : bytesOf Tryz.prog 95 = some 8 := by kernel_rfl
@[go_sem] theorem ip95 : isPtrT Tryz.prog 95 = true := by kernel_rfl
@[go_sem] theorem ze95 : zeroOf Tryz.prog 95 = some (.pointer none) := by kernel_rfl
@[go_sem] theorem sz97 : szOf Tryz.prog 97 = some 2 := by kernel_rfl
@[go_sem] theorem ag97 : aggOf Tryz.prog 97 = some true := by kernel_rfl
@[go_sem] theorem fl97_0 : fldOf Tryz.prog 97 0 = some (0, 56) := by kernel_rfl
@[go_sem] theorem fl97_1 : fldOf Tryz.prog 97 1 = some (1, 3) := by kernel_rfl
@[go_sem] theorem es97 : elemS Tryz.prog 97 = none := by kernel_rfl
@[go_sem] theorem ha97 : hasT Tryz.prog 97 = true := by kernel_rfl
@[go_sem] theorem ic97 : isIfc Tryz.prog 97 = false := by kernel_rfl
@[go_sem] theorem pl97 : placesOf Tryz.prog 97 = some [(0, 1), (1, 1)] := by kernel_rfl
@[go_sem] theorem by97 : bytesOf Tryz.prog 97 = some 16 := by kernel_rfl
@[go_sem] theorem eg97 : egOf Tryz.prog 97 = false := by kernel_rfl
@[go_sem] theorem ks97 : KS.of Tryz.prog 97 = some (.agg [(.num .i64), (.num .i64)]) := by kernel_rfl
@[go_sem] theorem ze97 : zeroOf Tryz.prog 97 = some (.agg #[(.int .i64 0), (.int .i64 0)]) := by kernel_rfl
@[go_sem] theorem sz102 : szOf Tryz.prog 102 = some 1 := by kernel_rfl
@[go_sem] theorem ag102 : aggOf Tryz.prog 102 = some false := by kernel_rfl
@[go_sem] theorem es102 : elemS Tryz.prog 102 = none := by kernel_rfl
@[go_sem] theorem ha102 : hasT Tryz.prog 102 = true := by kernel_rfl
@[go_sem] theorem ic102 : isIfc Tryz.prog 102 = false := by kernel_rfl
@[go_sem] theorem by102 : bytesOf Tryz.prog 102 = some 8 := by kernel_rfl
@[go_sem] theorem ze102 : zeroOf Tryz.prog 102 = some .nilFunc := by kernel_rfl
@[go_sem] theorem sz103 : szOf Tryz.prog 103 = some 1 := by kernel_rfl
@[go_sem] theorem ag103 : aggOf Tryz.prog 103 = some false := by kernel_rfl
@[go_sem] theorem es103 : elemS Tryz.prog 103 = none := by kernel_rfl
@[go_sem] theorem ha103 : hasT Tryz.prog 103 = true := by kernel_rfl
@[go_sem] theorem ic103 : isIfc Tryz.prog 103 = false := by kernel_rfl
@[go_sem] theorem by103 : bytesOf Tryz.prog 103 = some 0 := by kernel_rfl
@[go_sem] theorem sz105 : szOf Tryz.prog 105 = some 1 := by kernel_rfl
@[go_sem] theorem ag105 : aggOf Tryz.prog 105 = some false := by kernel_rfl
@[go_sem] theorem es105 : elemS Tryz.prog 105 = none := by kernel_rfl
@[go_sem] theorem ha105 : hasT Tryz.prog 105 = true := by kernel_rfl
@[go_sem] theorem ic105 : isIfc Tryz.prog 105 = false := by kernel_rfl
@[go_sem] theorem by105 : bytesOf Tryz.prog 105 = some 8 := by kernel_rfl
@[go_sem] theorem mp105 : mapT Tryz.prog 105 = some (78, 4) := by kernel_rfl
@[go_sem] theorem ze105 : zeroOf Tryz.prog 105 = some (.map none) := by kernel_rfl
@[go_sem] theorem sz111 : szOf Tryz.prog 111 = some 1 := by kernel_rfl
@[go_sem] theorem ag111 : aggOf Tryz.prog 111 = some false := by kernel_rfl
@[go_sem] theorem es111 : elemS Tryz.prog 111 = some 169 := by kernel_rfl
@[go_sem] theorem ha111 : hasT Tryz.prog 111 = true := by kernel_rfl
@[go_sem] theorem ic111 : isIfc Tryz.prog 111 = false := by kernel_rfl
@[go_sem] theorem by111 : bytesOf Tryz.prog 111 = some 24 := by kernel_rfl
@[go_sem] theorem ze111 : zeroOf Tryz.prog 111 = some (.slice none 0 0) := by kernel_rfl
@[go_sem] theorem sz118 : szOf Tryz.prog 118 = some 5 := by kernel_rfl
@[go_sem] theorem ag118 : aggOf Tryz.prog 118 = some true := by kernel_rfl
@[go_sem] theorem fl118_0 : fldOf Tryz.prog 118 0 = some (0, 9) := by kernel_rfl
@[go_sem] theorem fl118_1 : fldOf Tryz.prog 118 1 = some (1, 25) := by kernel_rfl
@[go_sem] theorem fl118_2 : fldOf Tryz.prog 118 2 = some (4, 3) := by kernel_rfl
@[go_sem] theorem es118 : elemS Tryz.prog 118 = none := by kernel_rfl
@[go_sem] theorem ha118 : hasT Tryz.prog 118 = true := by kernel_rfl
@[go_sem] theorem ic118 : isIfc Tryz.prog 118 = false := by kernel_rfl
@[go_sem] theorem pl118 : placesOf Tryz.prog 118 = some [(0, 1), (1, 3), (4, 1)] := by kernel_rfl
@[go_sem] theorem by118 : bytesOf Tryz.prog 118 = some 72 := by kernel_rfl
@[go_sem] theorem ze118 : zeroOf Tryz.prog 118 = some (.agg #[(.string ByteArray.empty), (.string ByteArray.empty), (.slice none 0 0), (.int .i64 0), (.int .i64 0)]) := by kernel_rfl
@[go_sem] theorem sz123 : szOf Tryz.prog 123 = some 1 := by kernel_rfl
@[go_sem] theorem ag123 : aggOf Tryz.prog 123 = some false := by kernel_rfl
@[go_sem] theorem es123 : elemS Tryz.prog 123 = none := by kernel_rfl
@[go_sem] theorem ha123 : hasT Tryz.prog 123 = true := by kernel_rfl
@[go_sem] theorem ic123 : isIfc Tryz.prog 123 = false := by kernel_rfl
@[go_sem] theorem by123 : bytesOf Tryz.prog 123 = some 8 := by kernel_rfl
@[go_sem] theorem ze123 : zeroOf Tryz.prog 123 = some (.pointer none) := by kernel_rfl
@[go_sem] theorem sz124 : szOf Tryz.prog 124 = some 1 := by kernel_rfl
@[go_sem] theorem ag124 : aggOf Tryz.prog 124 = some false := by kernel_rfl
@[go_sem] theorem es124 : elemS Tryz.prog 124 = none := by kernel_rfl
@[go_sem] theorem ha124 : hasT Tryz.prog 124 = true := by kernel_rfl
@[go_sem] theorem ic124 : isIfc Tryz.prog 124 = false := by kernel_rfl
@[go_sem] theorem io124 : intOfT Tryz.prog 124 = some .u64 := by kernel_rfl
@[go_sem] theorem by124 : bytesOf Tryz.prog 124 = some 8 := by kernel_rfl
@[go_sem] theorem ze124 : zeroOf Tryz.prog 124 = some (.int .u64 0) := by kernel_rfl
@[go_sem] theorem sz126 : szOf Tryz.prog 126 = some 3 := by kernel_rfl
@[go_sem] theorem ag126 : aggOf Tryz.prog 126 = some true := by kernel_rfl
@[go_sem] theorem fl126_0 : fldOf Tryz.prog 126 0 = some (0, 17) := by kernel_rfl
@[go_sem] theorem fl126_1 : fldOf Tryz.prog 126 1 = some (1, 123) := by kernel_rfl
@[go_sem] theorem fl126_2 : fldOf Tryz.prog 126 2 = some (2, 124) := by kernel_rfl
@[go_sem] theorem es126 : elemS Tryz.prog 126 = none := by kernel_rfl
@[go_sem] theorem ha126 : hasT Tryz.prog 126 = true := by kernel_rfl
@[go_sem] theorem ic126 : isIfc Tryz.prog 126 = false := by kernel_rfl
@[go_sem] theorem pl126 : placesOf Tryz.prog 126 = some [(0, 1), (1, 1), (2, 1)] := by kernel_rfl
@[go_sem] theorem by126 : bytesOf Tryz.prog 126 = some 24 := by kernel_rfl
@[go_sem] theorem ze126 : zeroOf Tryz.prog 126 = some (.agg #[(.pointer none), (.pointer none), (.int .u64 0)]) := by kernel_rfl
@[go_sem] theorem sz129 : szOf Tryz.prog 129 = some 1 := by kernel_rfl
@[go_sem] theorem ag129 : aggOf Tryz.prog 129 = some false := by kernel_rfl
@[go_sem] theorem es129 : elemS Tryz.prog 129 = none := by kernel_rfl
@[go_sem] theorem ha129 : hasT Tryz.prog 129 = true := by kernel_rfl
@[go_sem] theorem ic129 : isIfc Tryz.prog 129 = true := by kernel_rfl
@[go_sem] theorem by129 : bytesOf Tryz.prog 129 = some 16 := by kernel_rfl
@[go_sem] theorem ze129 : zeroOf Tryz.prog 129 = some .nilIface := by kernel_rfl
@[go_sem] theorem sz131 : szOf Tryz.prog 131 = some 1 := by kernel_rfl
@[go_sem] theorem ag131 : aggOf Tryz.prog 131 = some false := by kernel_rfl
@[go_sem] theorem es131 : elemS Tryz.prog 131 = none := by kernel_rfl
@[go_sem] theorem ha131 : hasT Tryz.prog 131 = true := by kernel_rfl
@[go_sem] theorem ic131 : isIfc Tryz.prog 131 = false := by kernel_rfl
@[go_sem] theorem io131 : intOfT Tryz.prog 131 = some .u8 := by kernel_rfl
@[go_sem] theorem by131 : bytesOf Tryz.prog 131 = some 1 := by kernel_rfl
@[go_sem] theorem ze131 : zeroOf Tryz.prog 131 = some (.int .u8 0) := by kernel_rfl
@[go_sem] theorem sz149 : szOf Tryz.prog 149 = some 1 := by kernel_rfl
@[go_sem] theorem ag149 : aggOf Tryz.prog 149 = some false := by kernel_rfl
@[go_sem] theorem es149 : elemS Tryz.prog 149 = none := by kernel_rfl
@[go_sem] theorem ha149 : hasT Tryz.prog 149 = true := by kernel_rfl
@[go_sem] theorem ic149 : isIfc Tryz.prog 149 = false := by kernel_rfl
@[go_sem] theorem io149 : intOfT Tryz.prog 149 = some .u64 := by kernel_rfl
@[go_sem] theorem by149 : bytesOf Tryz.prog 149 = some 8 := by kernel_rfl
@[go_sem] theorem ze149 : zeroOf Tryz.prog 149 = some (.int .u64 0) := by kernel_rfl
@[go_sem] theorem ks9 : KS.of Tryz.prog 9 = some (.one .str) := by kernel_rfl
@[go_sem] theorem sz151 : szOf Tryz.prog 151 = some 1 := by kernel_rfl
@[go_sem] theorem ag151 : aggOf Tryz.prog 151 = some false := by kernel_rfl
@[go_sem] theorem es151 : elemS Tryz.prog 151 = none := by kernel_rfl
@[go_sem] theorem ha151 : hasT Tryz.prog 151 = true := by kernel_rfl
@[go_sem] theorem ic151 : isIfc Tryz.prog 151 = false := by kernel_rfl
@[go_sem] theorem by151 : bytesOf Tryz.prog 151 = some 8 := by kernel_rfl
@[go_sem] theorem mp151 : mapT Tryz.prog 151 = some (9, 37) := by kernel_rfl
@[go_sem] theorem ze151 : zeroOf Tryz.prog 151 = some (.map none) := by kernel_rfl
@[go_sem] theorem sz156 : szOf Tryz.prog 156 = some 1 := by kernel_rfl
@[go_sem] theorem ag156 : aggOf Tryz.prog 156 = some false := by kernel_rfl
@[go_sem] theorem es156 : elemS Tryz.prog 156 = none := by kernel_rfl
@[go_sem] theorem ha156 : hasT Tryz.prog 156 = true := by kernel_rfl
@[go_sem] theorem ic156 : isIfc Tryz.prog 156 = false := by kernel_rfl
@[go_sem] theorem by156 : bytesOf Tryz.prog 156 = some 8 := by kernel_rfl
@[go_sem] theorem ze156 : zeroOf Tryz.prog 156 = some .nilFunc := by kernel_rfl
@[go_sem] theorem sz157 : szOf Tryz.prog 157 = some 1 := by kernel_rfl
@[go_sem] theorem ag157 : aggOf Tryz.prog 157 = some false := by kernel_rfl
@[go_sem] theorem es157 : elemS Tryz.prog 157 = none := by kernel_rfl
@[go_sem] theorem ha157 : hasT Tryz.prog 157 = true := by kernel_rfl
@[go_sem] theorem ic157 : isIfc Tryz.prog 157 = false := by kernel_rfl
@[go_sem] theorem by157 : bytesOf Tryz.prog 157 = some 8 := by kernel_rfl
@[go_sem] theorem ze157 : zeroOf Tryz.prog 157 = some .nilFunc := by kernel_rfl
@[go_sem] theorem sz162 : szOf Tryz.prog 162 = some 1 := by kernel_rfl
@[go_sem] theorem ag162 : aggOf Tryz.prog 162 = some false := by kernel_rfl
@[go_sem] theorem es162 : elemS Tryz.prog 162 = none := by kernel_rfl
@[go_sem] theorem ha162 : hasT Tryz.prog 162 = true := by kernel_rfl
@[go_sem] theorem ic162 : isIfc Tryz.prog 162 = false := by kernel_rfl
@[go_sem] theorem by162 : bytesOf Tryz.prog 162 = some 8 := by kernel_rfl
@[go_sem] theorem ze162 : zeroOf Tryz.prog 162 = some .nilFunc := by kernel_rfl
@[go_sem] theorem sz163 : szOf Tryz.prog 163 = some 1 := by kernel_rfl
@[go_sem] theorem ag163 : aggOf Tryz.prog 163 = some false := by kernel_rfl
@[go_sem] theorem es163 : elemS Tryz.prog 163 = none := by kernel_rfl
@[go_sem] theorem ha163 : hasT Tryz.prog 163 = true := by kernel_rfl
@[go_sem] theorem ic163 : isIfc Tryz.prog 163 = false := by kernel_rfl
@[go_sem] theorem by163 : bytesOf Tryz.prog 163 = some 8 := by kernel_rfl
@[go_sem] theorem ze163 : zeroOf Tryz.prog 163 = some .nilFunc := by kernel_rfl
@[go_sem] theorem sz165 : szOf Tryz.prog 165 = some 1 := by kernel_rfl
@[go_sem] theorem ag165 : aggOf Tryz.prog 165 = some false := by kernel_rfl
@[go_sem] theorem es165 : elemS Tryz.prog 165 = none := by kernel_rfl
@[go_sem] theorem ha165 : hasT Tryz.prog 165 = true := by kernel_rfl
@[go_sem] theorem ic165 : isIfc Tryz.prog 165 = false := by kernel_rfl
@[go_sem] theorem by165 : bytesOf Tryz.prog 165 = some 8 := by kernel_rfl
@[go_sem] theorem ze165 : zeroOf Tryz.prog 165 = some .nilFunc := by kernel_rfl
@[go_sem] theorem sz166 : szOf Tryz.prog 166 = some 1 := by kernel_rfl
@[go_sem] theorem ag166 : aggOf Tryz.prog 166 = some false := by kernel_rfl
@[go_sem] theorem es166 : elemS Tryz.prog 166 = some 3 := by kernel_rfl
@[go_sem] theorem ha166 : hasT Tryz.prog 166 = true := by kernel_rfl
@[go_sem] theorem ic166 : isIfc Tryz.prog 166 = false := by kernel_rfl
@[go_sem] theorem by166 : bytesOf Tryz.prog 166 = some 24 := by kernel_rfl
@[go_sem] theorem ze166 : zeroOf Tryz.prog 166 = some (.slice none 0 0) := by kernel_rfl
@[go_sem] theorem sz169 : szOf Tryz.prog 169 = some 4 := by kernel_rfl
@[go_sem] theorem ag169 : aggOf Tryz.prog 169 = some true := by kernel_rfl
@[go_sem] theorem fl169_0 : fldOf Tryz.prog 169 0 = some (0, 9) := by kernel_rfl
@[go_sem] theorem fl169_1 : fldOf Tryz.prog 169 1 = some (1, 32) := by kernel_rfl
@[go_sem] theorem es169 : elemS Tryz.prog 169 = none := by kernel_rfl
@[go_sem] theorem ha169 : hasT Tryz.prog 169 = true := by kernel_rfl
@[go_sem] theorem ic169 : isIfc Tryz.prog 169 = false := by kernel_rfl
@[go_sem] theorem pl169 : placesOf Tryz.prog 169 = some [(0, 1), (1, 3)] := by kernel_rfl
@[go_sem] theorem by169 : bytesOf Tryz.prog 169 = some 48 := by kernel_rfl
@[go_sem] theorem eg169 : egOf Tryz.prog 169 = false := by kernel_rfl
@[go_sem] theorem ks169 : KS.of Tryz.prog 169 = some (.agg [.str, .boo, .str, (.num .i64)]) := by kernel_rfl
@[go_sem] theorem ze169 : zeroOf Tryz.prog 169 = some (.agg #[(.string ByteArray.empty), (.bool false), (.string ByteArray.empty), (.int .i64 0)]) := by kernel_rfl
@[go_sem] theorem sz172 : szOf Tryz.prog 172 = some 1 := by kernel_rfl
@[go_sem] theorem ag172 : aggOf Tryz.prog 172 = some true := by kernel_rfl
@[go_sem] theorem fl172_0 : fldOf Tryz.prog 172 0 = some (0, 17) := by kernel_rfl
@[go_sem] theorem es172 : elemS Tryz.prog 172 = none := by kernel_rfl
@[go_sem] theorem ha172 : hasT Tryz.prog 172 = true := by kernel_rfl
@[go_sem] theorem ic172 : isIfc Tryz.prog 172 = false := by kernel_rfl
@[go_sem] theorem pl172 : placesOf Tryz.prog 172 = some [(0, 1)] := by kernel_rfl
@[go_sem] theorem by172 : bytesOf Tryz.prog 172 = some 8 := by kernel_rfl
@[go_sem] theorem ze172 : zeroOf Tryz.prog 172 = some (.agg #[(.pointer none)]) := by kernel_rfl
@[go_sem] theorem sz177 : szOf Tryz.prog 177 = some 1 := by kernel_rfl
@[go_sem] theorem ag177 : aggOf Tryz.prog 177 = some false := by kernel_rfl
@[go_sem] theorem es177 : elemS Tryz.prog 177 = none := by kernel_rfl
@[go_sem] theorem ha177 : hasT Tryz.prog 177 = true := by kernel_rfl
@[go_sem] theorem ic177 : isIfc Tryz.prog 177 = true := by kernel_rfl
@[go_sem] theorem by177 : bytesOf Tryz.prog 177 = some 16 := by kernel_rfl
@[go_sem] theorem ze177 : zeroOf Tryz.prog 177 = some .nilIface := by kernel_rfl
@[go_sem] theorem sz178 : szOf Tryz.prog 178 = some 1 := by kernel_rfl
@[go_sem] theorem ag178 : aggOf Tryz.prog 178 = some false := by kernel_rfl
@[go_sem] theorem es178 : elemS Tryz.prog 178 = none := by kernel_rfl
@[go_sem] theorem ha178 : hasT Tryz.prog 178 = true := by kernel_rfl
@[go_sem] theorem ic178 : isIfc Tryz.prog 178 = false := by kernel_rfl
@[go_sem] theorem by178 : bytesOf Tryz.prog 178 = some 0 := by kernel_rfl
@[go_sem] theorem sz180 : szOf Tryz.prog 180 = some 1 := by kernel_rfl
@[go_sem] theorem ag180 : aggOf Tryz.prog 180 = some false := by kernel_rfl
@[go_sem] theorem es180 : elemS Tryz.prog 180 = none := by kernel_rfl
@[go_sem] theorem ha180 : hasT Tryz.prog 180 = true := by kernel_rfl
@[go_sem] theorem ic180 : isIfc Tryz.prog 180 = true := by kernel_rfl
@[go_sem] theorem by180 : bytesOf Tryz.prog 180 = some 16 := by kernel_rfl
@[go_sem] theorem ze180 : zeroOf Tryz.prog 180 = some .nilIface := by kernel_rfl
@[go_sem] theorem sz182 : szOf Tryz.prog 182 = some 1 := by kernel_rfl
@[go_sem] theorem ag182 : aggOf Tryz.prog 182 = some false := by kernel_rfl
@[go_sem] theorem es182 : elemS Tryz.prog 182 = none := by kernel_rfl
@[go_sem] theorem ha182 : hasT Tryz.prog 182 = true := by kernel_rfl
@[go_sem] theorem ic182 : isIfc Tryz.prog 182 = true := by kernel_rfl
@[go_sem] theorem by182 : bytesOf Tryz.prog 182 = some 16 := by kernel_rfl
@[go_sem] theorem ze182 : zeroOf Tryz.prog 182 = some .nilIface := by kernel_rfl
@[go_sem] theorem sz183 : szOf Tryz.prog 183 = some 1 := by kernel_rfl
@[go_sem] theorem ag183 : aggOf Tryz.prog 183 = some false := by kernel_rfl
@[go_sem] theorem es183 : elemS Tryz.prog 183 = some 54 := by kernel_rfl
@[go_sem] theorem ha183 : hasT Tryz.prog 183 = true := by kernel_rfl
@[go_sem] theorem ic183 : isIfc Tryz.prog 183 = false := by kernel_rfl
@[go_sem] theorem by183 : bytesOf Tryz.prog 183 = some 24 := by kernel_rfl
@[go_sem] theorem ze183 : zeroOf Tryz.prog 183 = some (.slice none 0 0) := by kernel_rfl
@[go_sem] theorem sz193 : szOf Tryz.prog 193 = some 1 := by kernel_rfl
@[go_sem] theorem ag193 : aggOf Tryz.prog 193 = some false := by kernel_rfl
@[go_sem] theorem es193 : elemS Tryz.prog 193 = none := by kernel_rfl
@[go_sem] theorem ha193 : hasT Tryz.prog 193 = true := by kernel_rfl
@[go_sem] theorem ic193 : isIfc Tryz.prog 193 = false := by kernel_rfl
@[go_sem] theorem io193 : intOfT Tryz.prog 193 = some .i64 := by kernel_rfl
@[go_sem] theorem by193 : bytesOf Tryz.prog 193 = some 8 := by kernel_rfl
@[go_sem] theorem ze193 : zeroOf Tryz.prog 193 = some (.int .i64 0) := by kernel_rfl
@[go_sem] theorem sz194 : szOf Tryz.prog 194 = some 1 := by kernel_rfl
@[go_sem] theorem ag194 : aggOf Tryz.prog 194 = some false := by kernel_rfl
@[go_sem] theorem es194 : elemS Tryz.prog 194 = none := by kernel_rfl
@[go_sem] theorem ha194 : hasT Tryz.prog 194 = true := by kernel_rfl
@[go_sem] theorem ic194 : isIfc Tryz.prog 194 = false := by kernel_rfl
@[go_sem] theorem by194 : bytesOf Tryz.prog 194 = some 0 := by kernel_rfl
@[go_sem] theorem sz200 : szOf Tryz.prog 200 = some 1 := by kernel_rfl
@[go_sem] theorem ag200 : aggOf Tryz.prog 200 = some false := by kernel_rfl
@[go_sem] theorem es200 : elemS Tryz.prog 200 = none := by kernel_rfl
@[go_sem] theorem ha200 : hasT Tryz.prog 200 = true := by kernel_rfl
@[go_sem] theorem ic200 : isIfc Tryz.prog 200 = false := by kernel_rfl
@[go_sem] theorem io200 : intOfT Tryz.prog 200 = some .u32 := by kernel_rfl
@[go_sem] theorem by200 : bytesOf Tryz.prog 200 = some 4 := by kernel_rfl
@[go_sem] theorem ze200 : zeroOf Tryz.prog 200 = some (.int .u32 0) := by kernel_rfl
@[go_sem] theorem sz202 : szOf Tryz.prog 202 = some 1 := by kernel_rfl
@[go_sem] theorem ag202 : aggOf Tryz.prog 202 = some false := by kernel_rfl
@[go_sem] theorem es202 : elemS Tryz.prog 202 = none := by kernel_rfl
@[go_sem] theorem ha202 : hasT Tryz.prog 202 = true := by kernel_rfl
@[go_sem] theorem ic202 : isIfc Tryz.prog 202 = false := by kernel_rfl
@[go_sem] theorem io202 : intOfT Tryz.prog 202 = some .u64 := by kernel_rfl
@[go_sem] theorem by202 : bytesOf Tryz.prog 202 = some 8 := by kernel_rfl
@[go_sem] theorem ze202 : zeroOf Tryz.prog 202 = some (.int .u64 0) := by kernel_rfl
@[go_sem] theorem sz204 : szOf Tryz.prog 204 = some 1 := by kernel_rfl
@[go_sem] theorem ag204 : aggOf Tryz.prog 204 = some false := by kernel_rfl
@[go_sem] theorem es204 : elemS Tryz.prog 204 = none := by kernel_rfl
@[go_sem] theorem ha204 : hasT Tryz.prog 204 = true := by kernel_rfl
@[go_sem] theorem ic204 : isIfc Tryz.prog 204 = false := by kernel_rfl
@[go_sem] theorem by204 : bytesOf Tryz.prog 204 = some 0 := by kernel_rfl
@[go_sem] theorem sz211 : szOf Tryz.prog 211 = some 1 := by kernel_rfl
@[go_sem] theorem ag211 : aggOf Tryz.prog 211 = some false := by kernel_rfl
@[go_sem] theorem es211 : elemS Tryz.prog 211 = none := by kernel_rfl
@[go_sem] theorem ha211 : hasT Tryz.prog 211 = true := by kernel_rfl
@[go_sem] theorem ic211 : isIfc Tryz.prog 211 = false := by kernel_rfl
@[go_sem] theorem io211 : intOfT Tryz.prog 211 = some .u64 := by kernel_rfl
@[go_sem] theorem by211 : bytesOf Tryz.prog 211 = some 8 := by kernel_rfl
@[go_sem] theorem ze211 : zeroOf Tryz.prog 211 = some (.int .u64 0) := by kernel_rfl
@[go_sem] theorem sz215 : szOf Tryz.prog 215 = some 1 := by kernel_rfl
@[go_sem] theorem ag215 : aggOf Tryz.prog 215 = some false := by kernel_rfl
@[go_sem] theorem es215 : elemS Tryz.prog 215 = none := by kernel_rfl
@[go_sem] theorem ha215 : hasT Tryz.prog 215 = true := by kernel_rfl
@[go_sem] theorem ic215 : isIfc Tryz.prog 215 = false := by kernel_rfl
@[go_sem] theorem by215 : bytesOf Tryz.prog 215 = some 8 := by kernel_rfl
@[go_sem] theorem ip215 : isPtrT Tryz.prog 215 = true := by kernel_rfl
@[go_sem] theorem ze215 : zeroOf Tryz.prog 215 = some (.pointer none) := by kernel_rfl
@[go_sem] theorem sz222 : szOf Tryz.prog 222 = some 1 := by kernel_rfl
@[go_sem] theorem ag222 : aggOf Tryz.prog 222 = some false := by kernel_rfl
@[go_sem] theorem es222 : elemS Tryz.prog 222 = none := by kernel_rfl
@[go_sem] theorem ha222 : hasT Tryz.prog 222 = true := by kernel_rfl
@[go_sem] theorem ic222 : isIfc Tryz.prog 222 = false := by kernel_rfl
@[go_sem] theorem by222 : bytesOf Tryz.prog 222 = some 8 := by kernel_rfl
@[go_sem] theorem ip222 : isPtrT Tryz.prog 222 = true := by kernel_rfl
@[go_sem] theorem ze222 : zeroOf Tryz.prog 222 = some (.pointer none) := by kernel_rfl
@[go_sem] theorem sz223 : szOf Tryz.prog 223 = some 1 := by kernel_rfl
@[go_sem] theorem ag223 : aggOf Tryz.prog 223 = some false := by kernel_rfl
@[go_sem] theorem es223 : elemS Tryz.prog 223 = none := by kernel_rfl
@[go_sem] theorem ha223 : hasT Tryz.prog 223 = true := by kernel_rfl
@[go_sem] theorem ic223 : isIfc Tryz.prog 223 = false := by kernel_rfl
@[go_sem] theorem by223 : bytesOf Tryz.prog 223 = some 0 := by kernel_rfl
end Go.Proofs.T
