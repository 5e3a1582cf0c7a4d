/- A part of the proof, under no conditions of its own: ZAG. -/
import Derived.Test.YtmmfjicebmeamaaGreatZAF
import Derived.Test.YtmmfjicebmeamaaGreatProg
namespace Go.Ab
open Go Go.RowKit

theorem V.rebase {G : Gh} {w : World} {v : Value} {d : D} (b : Nat) (h : V G w v d) : V { G with base := b } w v d := h.mono (fun _ h => h) (fun _ _ => rfl) (fun _ _ h => h)
theorem WF.rebase {w0 : World} {G : Gh} {w : World} (b : Nat) (h : WF w0 G w) : WF w0 { G with base := b } w := ⟨h.below, h.old, h.lt, h.nm⟩
theorem Objs.rebase {w0 : World} {G : Gh} {w : World} {κ : Kp} (b : Nat) (h : Objs w0 G w κ) : Objs w0 { G with base := b } w κ :=
  ⟨fun n o hn => let ⟨u, h1, h2, h3⟩ := h.ob n o hn; ⟨u, h1, h2.mono (fun _ _ h => h.rebase b) fun _ _ => rfl, h3⟩, h.ne⟩
theorem Step.rebase {R : Nm → Prop} {G G' : Gh} {w w' : World} {κ κ' : Kp} (b : Nat) (h : Step R { G with base := b } w κ G' w' κ') : Step R G w κ { G' with base := G.base } w' κ' :=
  ⟨h.size, h.heap, h.F, h.F', h.ρ, h.ρ', h.top, h.blk', h.dom, rfl⟩

theorem put_head (n : Nm) (o o' : Ob) (σ : Sto) : Kp.put (get ((n, o) :: σ)) n o' = get ((n, o') :: σ) := by
  funext m
  simp only [Kp.put, get]
  split <;> rfl

theorem grownBy_put (W : World) (l : Nat) (o : Obj) : Gr W (W.putObj l o) (blk (.pointer (some ⟨l, 0, none⟩))) := Gr.of (grownBy_putObj' W l o)

/-- The loop's record is turned; all else stays. -/
theorem turn_loop {w0 : World} {G : Gh} {w : World} {n : Nm} {rc rc' : Loop} {env : List (Nat × D)} {σ : Sto} {l : Nat} (hw : WF w0 G w) (ho : Objs w0 G w (get ((n, .loop rc env) :: σ))) (hρ : G.ρ n = some (.pointer (some ⟨l, 0, none⟩))) (ht : rc'.tmps = rc.tmps) :
    w.heap[l]? = some (.loop rc) ∧ WF w0 G (w.putObj l (.loop rc')) ∧ Objs w0 G (w.putObj l (.loop rc')) (get ((n, .loop rc' env) :: σ)) ∧ Step no G w (get ((n, .loop rc env) :: σ)) G (w.putObj l (.loop rc')) (get ((n, .loop rc' env) :: σ)) := by
  have hn : get ((n, Ob.loop rc env) :: σ) n = some (.loop rc env) := by simp [get]
  obtain ⟨u, hu, ⟨l', rfl, hl, henv⟩, hF⟩ := ho.ob n _ hn
  rw [hρ] at hu
  cases hu
  have hnF : ¬ G.F l := hF l rfl
  have hlt : l < w.heap.size := (Array.getElem?_eq_some_iff.1 hl).1
  obtain ⟨h1, h2, h3⟩ := change_obj (ob' := .loop rc' env) hw ho hn hρ (grownBy_put w l (.loop rc')) ⟨l, rfl, World.putObj_heap_same hlt, fun t d ht' => by
    obtain ⟨k1, k2⟩ := henv t d ht'
    rw [ht]
    exact ⟨k1, k2.mono (fun _ h => h) (fun b hb => World.putObj_heap_other (fun e => hnF (by first | exact e ▸ hb | exact e.symm ▸ hb))) (fun _ _ h => h)⟩⟩
  rw [put_head] at h2 h3
  exact ⟨hl, h1, h2, h3.weaken fun _ _ h => h.elim⟩

theorem env_set {G : Gh} {w : World} {tmps : Array Value} {env : List (Nat × D)} {p : Nat} {v : Value} {x : D} (h : ∀ t d, lk env t = some d → t < tmps.size ∧ V G w (tmps.getD t undef) d) (hp : p < tmps.size) (hv : V G w v x) :
    ∀ t d, lk ((p, x) :: env) t = some d → t < (tmps.setIfInBounds p v).size ∧ V G w ((tmps.setIfInBounds p v).getD t undef) d := by
  intro t d ht
  simp only [lk] at ht
  split at ht
  · rename_i e
    subst e
    cases ht
    refine ⟨by simpa using hp, ?_⟩
    rw [Array.getD_eq_getD_getElem?, Array.getElem?_setIfInBounds_self_of_lt hp]
    exact hv
  · rename_i e
    obtain ⟨h1, h2⟩ := h t d ht
    refine ⟨by simpa using h1, ?_⟩
    rw [Array.getD_eq_getD_getElem?, Array.getElem?_setIfInBounds_ne e, ← Array.getD_eq_getD_getElem?]
    exact h2

theorem yc_round {E : Ctx} {N p : Nat} {x : D} {n : Nm} {rc : Loop} {env : List (Nat × D)} {J J' : Sto → Prop} (hst : rc.state = .ready) (hpe : rc.pending = none) (hps : rc.params = #[p]) (hN : rc.tmps.size = N) (hp : p < N)
    (hround : ∀ σ, J σ → AWp E.rnd N rc.assign (thenQ (fun s => AWp E.rnd N rc.body (thenQ (fun s' => J' s'.σ) fun _ _ => False) s) fun _ _ => False) { env := (p, x) :: env, σ := σ }) :
    YC E n x (fun τ => ∃ σ, τ = (n, .loop rc env) :: σ ∧ J σ ∧ get σ n = none) (fun τ => ∃ σ, τ = (n, .loop rc env) :: σ ∧ J' σ ∧ get σ n = none) := by
  rintro w0 hA G w τ l v ⟨σ, rfl, hJ, hn⟩ hw ho hv hρ r
  have hn0 : get ((n, Ob.loop rc env) :: σ) n = some (.loop rc env) := by simp [get]
  obtain ⟨u, hu, ⟨l', rfl, hl, henv⟩, hF⟩ := ho.ob n _ hn0
  rw [hρ] at hu
  cases hu
  have hy := run_yield (P := E.P) (args := #[v]) hl (by rw [hps]; rfl)
  refine ⟨_, _, _, _, hy, roundIn_of_wpIn (fr_fn r _) ?_⟩
  clear hy
  have htm : (rc.params.zip #[v]).foldl (fun tmps (t, a) => tmps.setIfInBounds t a) rc.tmps = rc.tmps.setIfInBounds p v := by rw [hps]; simp
  rw [htm]
  have hw0 := hw.rebase 0
  have ho0 := ho.rebase 0
  have hown : ∀ q ∈ [(n, Ob.loop rc env)], get σ q.1 = none := fun q hq => by
    rw [List.mem_singleton.1 hq]
    exact hn
  have hrel : Rel w0 { G with base := 0 } w { tmps := rc.tmps.setIfInBounds p v, defers := [] } { env := (p, x) :: env, σ := σ } :=
    ⟨hw0, fun t d ht => (let ⟨k1, k2⟩ := env_set henv (by rw [hN]; exact hp) hv t d ht; ⟨k1, k2.rebase 0⟩), ho0.sub fun m o hm => get_tail hown m o hm, .nil (Nat.zero_le _)⟩
  have h1 := hround σ hJ w0 hA { G with base := 0 } w { tmps := rc.tmps.setIfInBounds p v, defers := [] } (by simp [hN]) hrel (some l) (fun h => by cases h)
  refine wpIn_mono (F := Fr (some l)) (P := E.P) h1 ?_
  rintro e a1 w1 ⟨G1, st1, hs1, hr1, hst1, hq1⟩
  cases e with
  | normal =>
    obtain ⟨hn1, ho1, hs1'⟩ := tail_frame (own := [(n, Ob.loop rc env)]) hw0 ho0 hown hst1 hr1.objs
    have hρ1 := hst1.ρ n _ hρ
    obtain ⟨hl1, hw2, ho2, hs2⟩ := turn_loop (rc' := { rc with state := .busy }) hr1.wf ho1 hρ1 rfl
    have hown1 : ∀ q ∈ [(n, Ob.loop { rc with state := .busy } env)], get st1.σ q.1 = none := fun q hq => by
      rw [List.mem_singleton.1 hq]
      exact hn1 (n, Ob.loop rc env) (List.mem_singleton.2 rfl)
    have hrel2 : Rel w0 G1 (w1.putObj l (.loop { rc with state := .busy })) a1 st1 :=
      ⟨hw2, fun t d ht => ⟨(hr1.env t d ht).1, (hr1.env t d ht).2.step hs2 hr1.wf ho1⟩, ho2.sub fun m o hm => get_tail hown1 m o hm, hr1.defers.step hs2 hr1.wf ho1⟩
    have h2 := hq1 w0 hA G1 _ a1 hs1 hrel2 (some l) (fun h => by cases h)
    refine ⟨_, run_beginRound hl1 hst, wpIn_mono (F := Fr (some l)) (P := E.P) h2 ?_⟩
    rintro e a3 w3 ⟨G3, st3, hs3, hr3, hst3, hq3⟩
    cases e with
    | normal =>
      obtain ⟨hn3, ho3, hs3'⟩ := tail_frame (own := [(n, Ob.loop { rc with state := .busy } env)]) hw2 ho2 hown1 hst3 hr3.objs
      have hρ3 := hst3.ρ n _ hρ1
      obtain ⟨hl3, hw4, ho4, hs4⟩ := turn_loop (rc' := rc) hr3.wf ho3 hρ3 rfl
      have hend := run_endRound (P := E.P) none hl3
      have hrc : ({ { rc with state := LoopState.busy } with state := (if (none : Option Code).isNone then .ready else .done), pending := none } : Loop) = rc := by
        cases rc
        simp_all
      rw [hrc] at hend
      refine ⟨_, _, hend, rfl, { G3 with base := G.base }, (n, .loop rc env) :: st3.σ, ⟨st3.σ, rfl, hq3, hn3 (n, Ob.loop { rc with state := .busy } env) (List.mem_singleton.2 rfl)⟩, hw4.rebase _, ho4.rebase _, Step.rebase 0 (((hs1'.trans hs2).trans hs3').trans hs4)⟩
    | _ => exact hq3.elim
  | _ => exact hq1.elim
end Go.Ab

namespace Go.Ab
open Go Go.RowKit

section
variable {E : Ctx}

theorem ends_fun {fn : Func} {g d : Nat} {r : D} {σ' : Sto} {st : St} {l : List ResultVar} (hl : fn.results = l.toArray) (hσ : ∀ n o, get σ' n = some o → get st.σ n = some o) (h : SomeP (resD E.P st l) fun ds => Co (resV ds) r) : Ends E fn g d r σ' st := by
  obtain ⟨ds, h1, hco⟩ := h.elim
  intro w0 _ G w a hr _
  obtain ⟨v, k1, k2⟩ := results_run (E := E) hr hl h1
  exact ⟨v, G, k1, hr.wf, hco G w v k2, hr.objs.sub hσ, .drop hσ⟩

/-- A return of an iterator: its own objects are let go. -/
theorem ends_tail {fn : Func} {g d : Nat} {r : D} {own τ : Sto} {st : St} {l : List ResultVar} {Post : Sto → Prop} (hl : fn.results = l.toArray) (hσ : st.σ = own ++ τ) (hown : ∀ p ∈ own, get τ p.1 = none) (hpost : Post τ) (h : SomeP (resD E.P st l) fun ds => Co (resV ds) r) :
    ∃ τ', Post τ' ∧ Ends E fn g d r τ' st :=
  ⟨τ, hpost, ends_fun hl (fun n o hn => hσ ▸ get_tail hown n o hn) h⟩

/-- What an iterator's walk ends in. -/
def retP (E : Ctx) (fn : Func) (g d : Nat) (r : D) (Post : Sto → Prop) : Exit → St → Prop
  | .normal, st => ∃ τ', Post τ' ∧ Ends E fn g d r τ' st
  | .ret, st => ∃ τ', Post τ' ∧ Ends E fn g d r τ' st
  | _, _ => False

theorem icalls_of_awp {f : FuncId} {fn : Func} {c : Code} {N : Nat} {args : List D} {Pre Post : Sto → Prop} {r : D} (hcall : ∀ xs w, (callFunc f xs).run E.P w = .ok (.enter f xs) w) (hf : E.P.funcs[f]? = some fn) (hb : fn.body = some c) (hN : fn.ntmps = N) (hargs : args.length ≤ N)
    (h : ∀ g d τ, Pre τ → AWp E N c (retP E fn g d r Post) ⟨argsEnv 0 args, τ⟩) : IC E f args Pre Post r := by
  refine ⟨hcall, fun g d w0 hA G w vs σ hpre hw hvs ho hfr => ?_⟩
  refine callsIn_wide.1 (callsIn_of_wp_marks (F := Fr none) (n := 0) hf hb (fr_fn _ _) ?_)
  have hwB : WF w0 { G with base := w.heap.size } w := hw.rebase _
  have hoB : Objs w0 { G with base := w.heap.size } w (get σ) := ho.rebase _
  have hsz : (vs ++ Array.replicate (fn.ntmps - vs.size) undef).size = N := by
    have := hvs.1
    simp
    omega
  refine wpIn_mono (h g d σ hpre w0 hA { G with base := w.heap.size } w _ hsz ⟨hwB, fun t x ht => ?_, hoB, .nil (Nat.le_refl _)⟩ none (fun _ => rfl)) ?_
  · obtain ⟨_, h2⟩ := lk_argsEnv 0 args t x ht
    simp only [Nat.sub_zero] at h2
    have hlt : t < vs.size := by
      have := (List.getElem?_eq_some_iff.1 h2).1
      have := hvs.1
      omega
    refine ⟨by rw [hsz]; have := hvs.1; omega, ?_⟩
    rw [Array.getD_eq_getD_getElem?, Array.getElem?_append_left hlt]
    simp only [hlt, getElem?_pos, Option.getD_some]
    exact (hvs.2 t _ x (by simp [hlt]) h2).rebase _
  · rintro en a' w' ⟨G', st', h1, h2, h3, h4⟩
    have key : (∃ τ', Post τ' ∧ Ends E fn g d r τ' st') → LeavesInM (Fr none) 0 E.P fn a'.tmps (fun e w'' => ∃ v G'' τ', e = .returned v ∧ Post τ' ∧ WF w0 G'' w'' ∧ V G'' w'' v r ∧ Objs w0 G'' w'' (get τ') ∧ Step (rsv g (some d)) G w (get σ) G'' w'' (get τ')) a'.defers .returning w' := by
      rintro ⟨τ', hpost, he⟩
      obtain ⟨hbs, Ds, hds, hnd, hD⟩ := h2.defers
      have hb3 := h3.base
      have hb4 : G'.base = w.heap.size := hb3
      have go : ∀ (Ds : List Nat) (w' : World) (a2 : Act), a2.tmps = a'.tmps → Ds.Nodup → (∀ b ∈ Ds, G'.F b ∧ G'.base ≤ b ∧ w'.heap[b]? = some (.deferred (some []))) → Rel w0 G' w' { a2 with defers := [] } st' → Step no { G with base := w.heap.size } w (get σ) G' w' (get st'.σ) →
          LeavesInM (Fr none) 0 E.P fn a'.tmps (fun e w'' => ∃ v G'' τ', e = .returned v ∧ Post τ' ∧ WF w0 G'' w'' ∧ V G'' w'' v r ∧ Objs w0 G'' w'' (get τ') ∧ Step (rsv g (some d)) G w (get σ) G'' w'' (get τ')) (Ds.map (fun b => { target := .collected b, args := #[] })) .returning w' := by
        intro Ds
        induction Ds with
        | nil =>
          intro w' a2 hat _ _ hr2 hs2
          obtain ⟨v, G'', k1, k2, k3, k4, k5⟩ := he w0 hA G' w' { a2 with defers := [] } hr2 ⟨Nat.lt_of_lt_of_le hfr.1 hs2.top, fun j => hs2.fresh hfr.1 (hfr.2 j) fun h => h⟩
          have hst := (hs2.weaken (R' := rsv g (some d)) fun _ _ h => h.elim).trans k5
          have k1' : (results fn a'.tmps).run E.P w' = .ok v w' := by rw [← hat]; exact k1
          exact ⟨v, k1', v, { G'' with base := G.base }, τ', rfl, hpost, k2.rebase _, k3.rebase _, k4.rebase _, Step.rebase w.heap.size hst⟩
        | cons D0 Ds ih =>
          intro w' a2 hat hnd hD hr2 hs2
          obtain ⟨m1, m2, m3⟩ := hD D0 List.mem_cons_self
          obtain ⟨n1, n2⟩ := List.nodup_cons.1 hnd
          have hsh : Shut w' (w'.putObj D0 (.deferred none)) D0 := ⟨m3, rfl⟩
          have hbase : w.heap.size ≤ D0 := hb4 ▸ m2
          obtain ⟨q1, q2⟩ := shut_all hsh (Nat.le_trans hw.below.size hbase) m1 hr2.wf hr2.objs
          refine ⟨by simp, .inl ⟨D0, _, rfl, run_takeDeferred m3, ?_⟩⟩
          refine ih _ a2 hat n2 (fun b hb' => ?_) ⟨q1, fun t x ht => ⟨(hr2.env t x ht).1, (hr2.env t x ht).2.shut hsh⟩, q2, .nil (by have := hr2.defers.1; simpa [World.putObj] using this)⟩ (shut_step hsh hs2 hbase)
          obtain ⟨x1, x2, x3⟩ := hD b (List.mem_cons_of_mem _ hb')
          exact ⟨x1, x2, (hsh.heap fun e => n1 (e ▸ hb')).trans x3⟩
      rw [hds]
      exact go Ds w' a' rfl hnd hD ⟨h2.wf, h2.env, h2.objs, .nil hbs⟩ h3
    cases en with
    | normal => exact key h4
    | ret => exact key h4
    | _ => exact h4.elim
end

/-- The block for the rounds' deferred calls: it lies as it is until the function returns. -/
theorem new_mark {w0 : World} {G : Gh} {w : World} {κ : Kp} (hw : WF w0 G w) (ho : Objs w0 G w κ) :
    WF w0 { G with F := fun b => G.F b ∨ b = w.heap.size, top := G.top + 1 } (w.alloc (.deferred (some []))) ∧ Objs w0 { G with F := fun b => G.F b ∨ b = w.heap.size, top := G.top + 1 } (w.alloc (.deferred (some []))) κ ∧
      Step no G w κ { G with F := fun b => G.F b ∨ b = w.heap.size, top := G.top + 1 } (w.alloc (.deferred (some []))) κ := by
  have hsz : (w.alloc (.deferred (some []))).heap.size = w.heap.size + 1 := World.size_alloc _ _
  have hold : ∀ b, b < w.heap.size → (w.alloc (.deferred (some []))).heap[b]? = w.heap[b]? := fun b hb => heap_alloc_o w _ b hb
  have hV : ∀ v d, V G w v d → V { G with F := fun b => G.F b ∨ b = w.heap.size, top := G.top + 1 } (w.alloc (.deferred (some []))) v d := fun v d h => h.mono (fun _ h => .inl h) (fun b hb => hold b (hw.lt b hb)) (fun _ _ h => h)
  refine ⟨⟨Bel.of_grown hw.below (gr_alloc w _) (fun b h => by cases h), fun b hb => .inl (hw.old b hb), fun b hb => ?_, fun n v hn => ?_⟩, ⟨fun n o hn => ?_, ho.ne⟩, ?_⟩
  · rcases hb with hb | hb
    · have := hw.lt b hb; omega
    · omega
  · obtain ⟨h1, h2⟩ := hw.nm n v hn
    exact ⟨Nat.lt_succ_of_lt h1, fun b hb => ⟨(h2 b hb).1, by have := (h2 b hb).2; omega⟩⟩
  · obtain ⟨v, h1, h2, h3⟩ := ho.ob n o hn
    exact ⟨v, h1, h2.mono hV fun b hb => hold b (h2.lt b hb), fun b hb hF => by
      rcases hF with hF | hF
      · exact h3 b hb hF
      · have := h2.lt b hb; omega⟩
  · exact ⟨by omega, fun b hb _ => hold b hb, fun _ h => .inl h, fun b h => by
      rcases h with h | h
      · exact .inl h
      · exact .inr (.inl (by omega)), fun _ _ h => h, fun _ _ h _ => h, Nat.le_succ _, fun b h => .inr h, fun n h => .inl h, rfl⟩

theorem awp_range {E : Ctx} {N : Nat} {Q : Exit → St → Prop} {st : St} {gop : Operand} {p : Tmp} {assign body : Code} {f : FuncId} {caps : List D} {rD : D} (hE : E.rd = false) (hg : ev E st.env gop = .func (.func f) [] caps) (hp : p < N) (L : List D) (J : Nat → Sto → Prop) (h0 : J 0 st.σ)
    (hit : ∀ n (I : Nat → Sto → Prop), (∀ k (hk : k < L.length), YC E n L[k] (I k) (I (k + 1))) → IC E f (.yld n :: caps) (I 0) (I L.length) rD)
    (hround : ∀ k (hk : k < L.length) σ, J k σ → AWp E.rnd N assign (thenQ (fun s => AWp E.rnd N body (thenQ (fun s' => J (k + 1) s'.σ) fun _ _ => False) s) fun _ _ => False) { env := (p, L[k]) :: st.env, σ := σ })
    (hdone : ∀ σ, J L.length σ → Q .normal { env := st.env, σ := σ }) : AWp E N (.rangeFunc gop #[p] assign body) Q st := by
  intro w0 hA G w a hN hr r hrd
  obtain rfl := hrd hE
  refine wpIn_rangeFunc fun fn _ => ?_
  have hv := hr.ev hA gop
  rw [hg] at hv
  generalize hgv : a.eval gop = u at hv
  cases hv with
  | func h1 h2 h3 h4 =>
    rename_i fv cv
    have e1 : fv = #[] := Array.size_eq_zero_iff.1 h1
    subst e1
    obtain ⟨m1, m2, m3⟩ := new_mark hr.wf hr.objs
    generalize hG1 : ({ G with F := fun b => G.F b ∨ b = w.heap.size, top := G.top + 1 } : Gh) = G1 at m1 m2 m3
    have hmark : (w.alloc (.deferred (some []))).heap[w.heap.size]? = some (.deferred (some [])) := heap_alloc_n w _
    have hsz1 : (w.alloc (.deferred (some []))).heap.size = w.heap.size + 1 := World.size_alloc _ _
    have hF1 : G1.F w.heap.size := by rw [← hG1]; exact .inr rfl
    generalize hw1 : w.alloc (.deferred (some [])) = w1 at m1 m2 m3 hmark hsz1
    let rc : Loop := { state := .ready, pending := none, fn, tmps := a.tmps, params := #[p], assign, body, defers := w.heap.size }
    let n : Nm := ⟨G.top, 0, 0⟩
    have hn1 : G1.ρ n = none := by
      cases hc : G.ρ n with
      | none => rw [← hG1]; exact hc
      | some v => exact absurd (hr.wf.nm n v hc).1 (Nat.lt_irrefl _)
    have hng : n.g < G1.top := by rw [← hG1]; exact Nat.lt_succ_self _
    have henv1 : ∀ t d, lk st.env t = some d → t < rc.tmps.size ∧ V G1 w1 (rc.tmps.getD t undef) d := fun t d ht => ⟨(hr.env t d ht).1, (hr.env t d ht).2.step m3 hr.wf hr.objs⟩
    obtain ⟨k1, k2, k3⟩ := new_obj (n := n) (v := .pointer (some ⟨w1.heap.size, 0, none⟩)) (ob := .loop rc st.env) m1 m2 hn1 hng (gr_alloc w1 (.loop rc)) (fun b hb => by simp [blk] at hb; subst hb; simp)
      ⟨w1.heap.size, rfl, heap_alloc_n w1 _, fun t d ht => ⟨(henv1 t d ht).1, (henv1 t d ht).2.upd hn1 (fun b hF => heap_alloc_o w1 _ b (m1.lt b hF))⟩⟩
    have hor : Kp.or (single n (.loop rc st.env)) (get st.σ) = get ((n, .loop rc st.env) :: st.σ) := by
      funext m
      simp only [Kp.or, single, get]
      split <;> simp
    rw [hor] at k2 k3
    generalize hG2 : G1.upd n (.pointer (some ⟨w1.heap.size, 0, none⟩)) = G2 at k1 k2 k3
    have hρ2 : G2.ρ n = some (.pointer (some ⟨w1.heap.size, 0, none⟩)) := by rw [← hG2]; simp [Gh.upd]
    have hfree : ∀ j, G2.ρ ⟨G.top, 1, j⟩ = none := fun j => by
      rw [← hG2]
      have : G.ρ ⟨G.top, 1, j⟩ = none := by
        cases hc : G.ρ ⟨G.top, 1, j⟩ with
        | none => rfl
        | some v => exact absurd (hr.wf.nm _ v hc).1 (Nat.lt_irrefl _)
      simp only [Gh.upd]
      rw [if_neg (by simp [n]), ← hG1]
      exact this
    have htop2 : G.top < G2.top := by rw [← hG2, ← hG1]; exact Nat.lt_succ_self _
    have hnσ : get st.σ n = none := by
      cases hc : get st.σ n with
      | none => rfl
      | some o =>
        obtain ⟨v, hv, _⟩ := m2.ob n o hc
        rw [hn1] at hv; cases hv
    generalize hw2 : w1.alloc (.loop rc) = w2 at k1 k2 k3
    have hD2 : w2.heap[w.heap.size]? = some (.deferred (some [])) := by
      rw [← hw2, heap_alloc_o w1 _ _ (by omega)]
      exact hmark
    have hstep : Step no G w (get st.σ) G2 w2 (get ((n, .loop rc st.env) :: st.σ)) := by
      have s := (m3.weaken (R' := fun m => m.g = G.top) fun _ _ h => h.elim).trans (k3.weaken (R' := fun m => m.g = G.top) fun m _ hm => by rw [hm])
      exact s.weaken fun m h1 h2 => by
        have h3 : m.g = G.top := h2
        omega
    have hic := hit n (fun k τ => ∃ σ, τ = (n, .loop rc st.env) :: σ ∧ J k σ ∧ get σ n = none) fun k hk => yc_round rfl rfl rfl hN hp (hround k hk)
    have hvs : Vs G2 w2 (#[.func (.yield w1.heap.size) #[] #[]] ++ cv) (.yld n :: caps) := by
      refine Vs.append (a := #[.func (.yield w1.heap.size) #[] #[]]) (x := [.yld n]) ⟨rfl, fun i x d hx hd => ?_⟩ ⟨h2, fun i x d hx hd => ?_⟩
      · match i, hx, hd with
        | 0, hx, hd => cases hx; cases hd; exact .yld hρ2
        | i + 1, hx, hd => simp at hd
      · exact (h4 i x d hx hd).step hstep hr.wf hr.objs
    refine ⟨w1.heap.size, [{ target := .collected w.heap.size, args := #[] }], w2, { target := .fn (.func f) cv, args := #[.func (.yield w1.heap.size) #[] #[]] }, w2, f, #[.func (.yield w1.heap.size) #[] #[]] ++ cv, w2, ?_, ?_, fun _ _ => fr_fn _ _, ?_, fr_depth none 0, callsIn_fr.2 (Calls.mono (hic.run G.top 1 w0 hA G2 w2 _ _ ⟨st.σ, rfl, h0, hnσ⟩ k1 hvs k2 ⟨htop2, hfree⟩) ?_)⟩
    · have := run_enterLoop_outer (P := E.P) (w := w) fn a.tmps #[p] assign body
      rw [hsz1, ← hw2]
      subst hw1
      exact this
    · simp only [resolve, hgv]
      simp [Deferred.ofValue]
      rfl
    · simp [invoke, hic.call]
    · rintro e w' ⟨v, G', τ', rfl, ⟨σ', rfl, hJ, hn'⟩, q1, q2, q3, q4⟩
      have hρ' := q4.ρ n _ hρ2
      obtain ⟨hl, t1, t2, t3⟩ := turn_loop (rc' := { rc with state := .exhausted }) q1 q3 hρ' rfl
      refine ⟨none, _, run_endLoop (P := E.P) hl (by simp [rc]), ?_⟩
      have hsub : ∀ m o, get σ' m = some o → get ((n, Ob.loop { rc with state := .exhausted } st.env) :: σ') m = some o := fun m o hm => get_tail (own := [(n, _)]) (fun q hq => by rw [List.mem_singleton.1 hq]; exact hn') m o hm
      have s2 : Step (fun m => m.g = G.top) G2 w2 (get ((n, .loop rc st.env) :: st.σ)) G' _ (get σ') := ((q4.weaken fun m _ hm => hm.1).trans (t3.weaken fun _ _ h => h.elim)).trans (Step.drop hsub)
      have s1 : Step no G w (get st.σ) G' _ (get σ') := ((hstep.weaken (R' := fun m => m.g = G.top) fun _ _ h => h.elim).trans s2).weaken fun m h1 h2 => by
        have h3 : m.g = G.top := h2
        omega
      refine ⟨G', { env := st.env, σ := σ' }, hN, ⟨t1, fun t d ht => ⟨(hr.env t d ht).1, (hr.env t d ht).2.step s1 hr.wf hr.objs⟩, t2.sub hsub, ?_⟩, s1, hdone σ' hJ⟩
      obtain ⟨hb, Ds, hds, hnd, hD⟩ := hr.defers
      have hF2 : G2.F w.heap.size := by rw [← hG2]; exact hF1
      refine ⟨?_, w.heap.size :: Ds, by simp [hds], List.nodup_cons.2 ⟨fun hm => Nat.lt_irrefl _ (hr.wf.lt _ (hD _ hm).1), hnd⟩, fun b hm => ?_⟩
      · have := s1.base
        have := s1.size
        omega
      · rcases List.mem_cons.1 hm with rfl | hm
        · exact ⟨s2.F _ hF2, by rw [s1.base]; exact hb, (s2.keeps k1 k2 _ hF2).trans hD2⟩
        · obtain ⟨x1, x2, x3⟩ := hD b hm
          exact ⟨s1.F _ x1, by rw [s1.base]; exact x2, (s1.keeps hr.wf hr.objs _ x1).trans x3⟩

/-- The same, for the printer: what follows the assignment, and what follows the body, under names. -/
theorem awp_range_k {E : Ctx} {N : Nat} {Q : Exit → St → Prop} {st : St} {gop : Operand} {p : Tmp} {assign body : Code} {f : FuncId} {caps : List D} {rD : D} (hE : E.rd = false) (hg : ev E st.env gop = .func (.func f) [] caps) (hp : p < N) (L : List D) (J : Nat → Sto → Prop) (h0 : J 0 st.σ)
    (hit : ∀ n (I : Nat → Sto → Prop), (∀ k (hk : k < L.length), YC E n L[k] (I k) (I (k + 1))) → IC E f (.yld n :: caps) (I 0) (I L.length) rD)
    (hround : ∀ k (hk : k < L.length) σ, J k σ → ∀ KA : St → Prop, (∀ s, (∀ KB : St → Prop, (∀ s', J (k + 1) s'.σ → KB s') → AWp E.rnd N body (thenQ KB fun _ _ => False) s) → KA s) → AWp E.rnd N assign (thenQ KA fun _ _ => False) { env := (p, L[k]) :: st.env, σ := σ })
    (hdone : ∀ σ, J L.length σ → Q .normal { env := st.env, σ := σ }) : AWp E N (.rangeFunc gop #[p] assign body) Q st :=
  awp_range hE hg hp L J h0 hit (fun k hk σ hJ => hround k hk σ hJ (fun s => AWp E.rnd N body (thenQ (fun s' => J (k + 1) s'.σ) fun _ _ => False) s) fun _ h => h _ fun _ h => h) hdone

theorem ACalls.rnd {E : Ctx} {f : FuncId} {args : List D} {σ σ' : Sto} {g d : Nat} {r : D} (h : ACalls E f args σ g d r σ') : ACalls E.rnd f args σ g d r σ' := ⟨h.call, h.run⟩

/-- A part of what is known, all objects among it. -/
def LeT (st' st : St) : Prop := (∀ p ∈ st'.env, lk st.env p.1 = some p.2) ∧ (∀ n o, get st'.σ n = some o → get st.σ n = some o)
theorem Sees.keepT {E : Ctx} {K : St → Prop} {st st' : St} (h : LeT st' st) (hk : K st') : Sees E st K := by
  intro w0 _ G w a hr
  exact ⟨G, st', ⟨hr.wf, fun t d ht => hr.env t d (h.1 (t, d) (mem_of_lk ht)), hr.objs.sub h.2, hr.defers⟩, .drop h.2, hk⟩
theorem awp_keepT {E : Ctx} {N : Nat} {Q : Exit → St → Prop} {c : Code} {st st' : St} (hl : LeT st' st) (h : AWp E N c Q st') : AWp E N c Q st := Sees.awp (Sees.keepT hl h)
theorem let_of {st st' : St} (hσ : st'.σ = st.σ) (h : leE st'.env st.env) : LeT st' st := ⟨leE_spec h, fun _ _ hn => hσ ▸ hn⟩
end Go.Ab

namespace Go.Proofs.T
open Go Go.Ab Go.RowKit

noncomputable def E : Ctx := { P := Tryz.prog, A := fun _ => True, glob := fun _ => .any, hglob := fun _ _ _ _ _ _ => .any _, mixed := by kernel_rfl }
@[go_sem] theorem E_P : E.P = Tryz.prog := rfl
@[go_sem] theorem rnd_P : E.rnd.P = Tryz.prog := rfl
@[go_sem] theorem sz0 : szOf Tryz.prog 0 = some 1 := by kernel_rfl
@[go_sem] theorem ag0 : aggOf Tryz.prog 0 = some false := by kernel_rfl
@[go_sem] theorem es0 : elemS Tryz.prog 0 = none := by kernel_rfl
@[go_sem] theorem ha0 : hasT Tryz.prog 0 = true := by kernel_rfl
@[go_sem] theorem ic0 : isIfc Tryz.prog 0 = false := by kernel_rfl
@[go_sem] theorem by0 : bytesOf Tryz.prog 0 = some 0 := by kernel_rfl
@[go_sem] theorem sz2 : szOf Tryz.prog 2 = some 1 := by kernel_rfl
@[go_sem] theorem ag2 : aggOf Tryz.prog 2 = some false := by kernel_rfl
@[go_sem] theorem es2 : elemS Tryz.prog 2 = none := by kernel_rfl
@[go_sem] theorem ha2 : hasT Tryz.prog 2 = true := by kernel_rfl
@[go_sem] theorem ic2 : isIfc Tryz.prog 2 = false := by kernel_rfl
@[go_sem] theorem io2 : intOfT Tryz.prog 2 = some .i64 := by kernel_rfl
@[go_sem] theorem by2 : bytesOf Tryz.prog 2 = some 8 := by kernel_rfl
@[go_sem] theorem ze2 : zeroOf Tryz.prog 2 = some (.int .i64 0) := by kernel_rfl
@[go_sem] theorem sz3 : szOf Tryz.prog 3 = some 1 := by kernel_rfl
@[go_sem] theorem ag3 : aggOf Tryz.prog 3 = some false := by kernel_rfl
@[go_sem] theorem es3 : elemS Tryz.prog 3 = none := by kernel_rfl
@[go_sem] theorem ha3 : hasT Tryz.prog 3 = true := by kernel_rfl
@[go_sem] theorem ic3 : isIfc Tryz.prog 3 = false := by kernel_rfl
@[go_sem] theorem io3 : intOfT Tryz.prog 3 = some .i64 := by kernel_rfl
@[go_sem] theorem by3 : bytesOf Tryz.prog 3 = some 8 := by kernel_rfl
@[go_sem] theorem ze3 : zeroOf Tryz.prog 3 = some (.int .i64 0) := by kernel_rfl
@[go_sem] theorem sz4 : szOf Tryz.prog 4 = some 1 := by kernel_rfl
@[go_sem] theorem ag4 : aggOf Tryz.prog 4 = some false := by kernel_rfl
@[go_sem] theorem es4 : elemS Tryz.prog 4 = none := by kernel_rfl
@[go_sem] theorem ha4 : hasT Tryz.prog 4 = true := by kernel_rfl
@[go_sem] theorem ic4 : isIfc Tryz.prog 4 = false := by kernel_rfl
@[go_sem] theorem by4 : bytesOf Tryz.prog 4 = some 1 := by kernel_rfl
@[go_sem] theorem ib4 : isBoolT Tryz.prog 4 = true := by kernel_rfl
@[go_sem] theorem ze4 : zeroOf Tryz.prog 4 = some (.bool false) := by kernel_rfl
@[go_sem] theorem sz5 : szOf Tryz.prog 5 = some 1 := by kernel_rfl
@[go_sem] theorem ag5 : aggOf Tryz.prog 5 = some false := by kernel_rfl
@[go_sem] theorem es5 : elemS Tryz.prog 5 = none := by kernel_rfl
@[go_sem] theorem ha5 : hasT Tryz.prog 5 = true := by kernel_rfl
@[go_sem] theorem ic5 : isIfc Tryz.prog 5 = false := by kernel_rfl
@[go_sem] theorem io5 : intOfT Tryz.prog 5 = some .u8 := by kernel_rfl
@[go_sem] theorem by5 : bytesOf Tryz.prog 5 = some 1 := by kernel_rfl
@[go_sem] theorem ze5 : zeroOf Tryz.prog 5 = some (.int .u8 0) := by kernel_rfl
@[go_sem] theorem sz6 : szOf Tryz.prog 6 = some 1 := by kernel_rfl
@[go_sem] theorem ag6 : aggOf Tryz.prog 6 = some false := by kernel_rfl
@[go_sem] theorem es6 : elemS Tryz.prog 6 = none := by kernel_rfl
@[go_sem] theorem ha6 : hasT Tryz.prog 6 = true := by kernel_rfl
@[go_sem] theorem ic6 : isIfc Tryz.prog 6 = false := by kernel_rfl
@[go_sem] theorem io6 : intOfT Tryz.prog 6 = some .u8 := by kernel_rfl
@[go_sem] theorem by6 : bytesOf Tryz.prog 6 = some 1 := by kernel_rfl
@[go_sem] theorem ze6 : zeroOf Tryz.prog 6 = some (.int .u8 0) := by kernel_rfl
@[go_sem] theorem sz7 : szOf Tryz.prog 7 = some 4 := by kernel_rfl
@[go_sem] theorem ag7 : aggOf Tryz.prog 7 = some true := by kernel_rfl
@[go_sem] theorem fl7_0 : fldOf Tryz.prog 7 0 = some (0, 2) := by kernel_rfl
@[go_sem] theorem fl7_1 : fldOf Tryz.prog 7 1 = some (1, 3) := by kernel_rfl
@[go_sem] theorem fl7_2 : fldOf Tryz.prog 7 2 = some (2, 4) := by kernel_rfl
@[go_sem] theorem fl7_3 : fldOf Tryz.prog 7 3 = some (3, 6) := by kernel_rfl
@[go_sem] theorem es7 : elemS Tryz.prog 7 = none := by kernel_rfl
@[go_sem] theorem ha7 : hasT Tryz.prog 7 = true := by kernel_rfl
@[go_sem] theorem ic7 : isIfc Tryz.prog 7 = false := by kernel_rfl
@[go_sem] theorem pl7 : placesOf Tryz.prog 7 = some [(0, 1), (1, 1), (2, 1), (3, 1)] := by kernel_rfl
@[go_sem] theorem by7 : bytesOf Tryz.prog 7 = some 24 := by kernel_rfl
@[go_sem] theorem eg7 : egOf Tryz.prog 7 = false := by kernel_rfl
@[go_sem] theorem ks7 : KS.of Tryz.prog 7 = some (.agg [(.num .i64), (.num .i64), .boo, (.num .u8)]) := by kernel_rfl
@[go_sem] theorem ze7 : zeroOf Tryz.prog 7 = some (.agg #[(.int .i64 0), (.int .i64 0), (.bool false), (.int .u8 0)]) := by kernel_rfl
@[go_sem] theorem sz9 : szOf Tryz.prog 9 = some 1 := by kernel_rfl
@[go_sem] theorem ag9 : aggOf Tryz.prog 9 = some false := by kernel_rfl
@[go_sem] theorem es9 : elemS Tryz.prog 9 = none := by kernel_rfl
@[go_sem] theorem ha9 : hasT Tryz.prog 9 = true := by kernel_rfl
@[go_sem] theorem st9 : isStr Tryz.prog 9 = true := by kernel_rfl
@[go_sem] theorem ic9 : isIfc Tryz.prog 9 = false := by kernel_rfl
@[go_sem] theorem by9 : bytesOf Tryz.prog 9 = some 16 := by kernel_rfl
@[go_sem] theorem ze9 : zeroOf Tryz.prog 9 = some (.string ByteArray.empty) := by kernel_rfl
@[go_sem] theorem sz20 : szOf Tryz.prog 20 = some 1 := by kernel_rfl
@[go_sem] theorem ag20 : aggOf Tryz.prog 20 = some false := by kernel_rfl
@[go_sem] theorem es20 : elemS Tryz.prog 20 = none := by kernel_rfl
@[go_sem] theorem ha20 : hasT Tryz.prog 20 = true := by kernel_rfl
@[go_sem] theorem ic20 : isIfc Tryz.prog 20 = true := by kernel_rfl
@[go_sem] theorem by20 : bytesOf Tryz.prog 20 = some 16 := by kernel_rfl
@[go_sem] theorem ze20 : zeroOf Tryz.prog 20 = some .nilIface := by kernel_rfl
@[go_sem] theorem sz22 : szOf Tryz.prog 22 = some 1 := by kernel_rfl
@[go_sem] theorem ag22 : aggOf Tryz.prog 22 = some false := by kernel_rfl
@[go_sem] theorem es22 : elemS Tryz.prog 22 = some 48 := by kernel_rfl
@[go_sem] theorem ha22 : hasT Tryz.prog 22 = true := by kernel_rfl
@[go_sem] theorem ic22 : isIfc Tryz.prog 22 = false := by kernel_rfl
@[go_sem] theorem by22 : bytesOf Tryz.prog 22 = some 24 := by kernel_rfl
@[go_sem] theorem ze22 : zeroOf Tryz.prog 22 = some (.slice none 0 0) := by kernel_rfl
@[go_sem] theorem sz23 : szOf Tryz.prog 23 = some 1 := by kernel_rfl
@[go_sem] theorem ag23 : aggOf Tryz.prog 23 = some false := by kernel_rfl
@[go_sem] theorem es23 : elemS Tryz.prog 23 = some 25 := by kernel_rfl
@[go_sem] theorem ha23 : hasT Tryz.prog 23 = true := by kernel_rfl
@[go_sem] theorem ic23 : isIfc Tryz.prog 23 = false := by kernel_rfl
@[go_sem] theorem by23 : bytesOf Tryz.prog 23 = some 24 := by kernel_rfl
@[go_sem] theorem ze23 : zeroOf Tryz.prog 23 = some (.slice none 0 0) := by kernel_rfl
@[go_sem] theorem sz25 : szOf Tryz.prog 25 = some 3 := by kernel_rfl
@[go_sem] theorem ag25 : aggOf Tryz.prog 25 = some true := by kernel_rfl
@[go_sem] theorem fl25_0 : fldOf Tryz.prog 25 0 = some (0, 9) := by kernel_rfl
@[go_sem] theorem fl25_1 : fldOf Tryz.prog 25 1 = some (1, 23) := by kernel_rfl
@[go_sem] theorem fl25_2 : fldOf Tryz.prog 25 2 = some (2, 3) := by kernel_rfl
@[go_sem] theorem es25 : elemS Tryz.prog 25 = none := by kernel_rfl
@[go_sem] theorem ha25 : hasT Tryz.prog 25 = true := by kernel_rfl
@[go_sem] theorem ic25 : isIfc Tryz.prog 25 = false := by kernel_rfl
@[go_sem] theorem pl25 : placesOf Tryz.prog 25 = some [(0, 1), (1, 1), (2, 1)] := by kernel_rfl
@[go_sem] theorem by25 : bytesOf Tryz.prog 25 = some 48 := by kernel_rfl
@[go_sem] theorem ze25 : zeroOf Tryz.prog 25 = some (.agg #[(.string ByteArray.empty), (.slice none 0 0), (.int .i64 0)]) := by kernel_rfl
@[go_sem] theorem sz26 : szOf Tryz.prog 26 = some 1 := by kernel_rfl
@[go_sem] theorem ag26 : aggOf Tryz.prog 26 = some false := by kernel_rfl
@[go_sem] theorem es26 : elemS Tryz.prog 26 = some 28 := by kernel_rfl
@[go_sem] theorem ha26 : hasT Tryz.prog 26 = true := by kernel_rfl
@[go_sem] theorem ic26 : isIfc Tryz.prog 26 = false := by kernel_rfl
@[go_sem] theorem by26 : bytesOf Tryz.prog 26 = some 24 := by kernel_rfl
@[go_sem] theorem ze26 : zeroOf Tryz.prog 26 = some (.slice none 0 0) := by kernel_rfl
@[go_sem] theorem sz28 : szOf Tryz.prog 28 = some 8 := by kernel_rfl
@[go_sem] theorem ag28 : aggOf Tryz.prog 28 = some true := by kernel_rfl
@[go_sem] theorem fl28_0 : fldOf Tryz.prog 28 0 = some (0, 3) := by kernel_rfl
@[go_sem] theorem fl28_1 : fldOf Tryz.prog 28 1 = some (1, 9) := by kernel_rfl
@[go_sem] theorem fl28_2 : fldOf Tryz.prog 28 2 = some (2, 25) := by kernel_rfl
@[go_sem] theorem fl28_3 : fldOf Tryz.prog 28 3 = some (5, 23) := by kernel_rfl
@[go_sem] theorem fl28_4 : fldOf Tryz.prog 28 4 = some (6, 26) := by kernel_rfl
@[go_sem] theorem fl28_5 : fldOf Tryz.prog 28 5 = some (7, 3) := by kernel_rfl
@[go_sem] theorem es28 : elemS Tryz.prog 28 = none := by kernel_rfl
@[go_sem] theorem ha28 : hasT Tryz.prog 28 = true := by kernel_rfl
@[go_sem] theorem ic28 : isIfc Tryz.prog 28 = false := by kernel_rfl
@[go_sem] theorem pl28 : placesOf Tryz.prog 28 = some [(0, 1), (1, 1), (2, 3), (5, 1), (6, 1), (7, 1)] := by kernel_rfl
@[go_sem] theorem by28 : bytesOf Tryz.prog 28 = some 128 := by kernel_rfl
@[go_sem] theorem ze28 : zeroOf Tryz.prog 28 = some (.agg #[(.int .i64 0), (.string ByteArray.empty), (.string ByteArray.empty), (.slice none 0 0), (.int .i64 0), (.slice none 0 0), (.slice none 0 0), (.int .i64 0)]) := by kernel_rfl
@[go_sem] theorem sz30 : szOf Tryz.prog 30 = some 9 := by kernel_rfl
@[go_sem] theorem ag30 : aggOf Tryz.prog 30 = some true := by kernel_rfl
@[go_sem] theorem fl30_0 : fldOf Tryz.prog 30 0 = some (0, 22) := by kernel_rfl
@[go_sem] theorem fl30_1 : fldOf Tryz.prog 30 1 = some (1, 28) := by kernel_rfl
@[go_sem] theorem es30 : elemS Tryz.prog 30 = none := by kernel_rfl
@[go_sem] theorem ha30 : hasT Tryz.prog 30 = true := by kernel_rfl
@[go_sem] theorem ic30 : isIfc Tryz.prog 30 = false := by kernel_rfl
@[go_sem] theorem pl30 : placesOf Tryz.prog 30 = some [(0, 1), (1, 8)] := by kernel_rfl
@[go_sem] theorem by30 : bytesOf Tryz.prog 30 = some 152 := by kernel_rfl
@[go_sem] theorem ze30 : zeroOf Tryz.prog 30 = some (.agg #[(.slice none 0 0), (.int .i64 0), (.string ByteArray.empty), (.string ByteArray.empty), (.slice none 0 0), (.int .i64 0), (.slice none 0 0), (.slice none 0 0), (.int .i64 0)]) := by kernel_rfl
@[go_sem] theorem sz41 : szOf Tryz.prog 41 = some 1 := by kernel_rfl
@[go_sem] theorem ag41 : aggOf Tryz.prog 41 = some false := by kernel_rfl
@[go_sem] theorem es41 : elemS Tryz.prog 41 = some 82 := by kernel_rfl
@[go_sem] theorem ha41 : hasT Tryz.prog 41 = true := by kernel_rfl
@[go_sem] theorem ic41 : isIfc Tryz.prog 41 = false := by kernel_rfl
@[go_sem] theorem by41 : bytesOf Tryz.prog 41 = some 24 := by kernel_rfl
@[go_sem] theorem ze41 : zeroOf Tryz.prog 41 = some (.slice none 0 0) := by kernel_rfl
@[go_sem] theorem sz42 : szOf Tryz.prog 42 = some 1 := by kernel_rfl
@[go_sem] theorem ag42 : aggOf Tryz.prog 42 = some false := by kernel_rfl
@[go_sem] theorem es42 : elemS Tryz.prog 42 = some 84 := by kernel_rfl
@[go_sem] theorem ha42 : hasT Tryz.prog 42 = true := by kernel_rfl
@[go_sem] theorem ic42 : isIfc Tryz.prog 42 = false := by kernel_rfl
@[go_sem] theorem by42 : bytesOf Tryz.prog 42 = some 24 := by kernel_rfl
@[go_sem] theorem ze42 : zeroOf Tryz.prog 42 = some (.slice none 0 0) := by kernel_rfl
@[go_sem] theorem sz43 : szOf Tryz.prog 43 = some 1 := by kernel_rfl
@[go_sem] theorem ag43 : aggOf Tryz.prog 43 = some false := by kernel_rfl
@[go_sem] theorem es43 : elemS Tryz.prog 43 = some 46 := by kernel_rfl
@[go_sem] theorem ha43 : hasT Tryz.prog 43 = true := by kernel_rfl
@[go_sem] theorem ic43 : isIfc Tryz.prog 43 = false := by kernel_rfl
@[go_sem] theorem by43 : bytesOf Tryz.prog 43 = some 24 := by kernel_rfl
@[go_sem] theorem ze43 : zeroOf Tryz.prog 43 = some (.slice none 0 0) := by kernel_rfl
@[go_sem] theorem sz44 : szOf Tryz.prog 44 = some 1 := by kernel_rfl
@[go_sem] theorem ag44 : aggOf Tryz.prog 44 = some false := by kernel_rfl
@[go_sem] theorem es44 : elemS Tryz.prog 44 = some 9 := by kernel_rfl
@[go_sem] theorem ha44 : hasT Tryz.prog 44 = true := by kernel_rfl
@[go_sem] theorem ic44 : isIfc Tryz.prog 44 = false := by kernel_rfl
@[go_sem] theorem by44 : bytesOf Tryz.prog 44 = some 24 := by kernel_rfl
@[go_sem] theorem ze44 : zeroOf Tryz.prog 44 = some (.slice none 0 0) := by kernel_rfl
@[go_sem] theorem sz46 : szOf Tryz.prog 46 = some 7 := by kernel_rfl
@[go_sem] theorem ag46 : aggOf Tryz.prog 46 = some true := by kernel_rfl
@[go_sem] theorem fl46_0 : fldOf Tryz.prog 46 0 = some (0, 9) := by kernel_rfl
@[go_sem] theorem fl46_1 : fldOf Tryz.prog 46 1 = some (1, 41) := by kernel_rfl
@[go_sem] theorem fl46_2 : fldOf Tryz.prog 46 2 = some (2, 42) := by kernel_rfl
@[go_sem] theorem fl46_3 : fldOf Tryz.prog 46 3 = some (3, 25) := by kernel_rfl
@[go_sem] theorem fl46_4 : fldOf Tryz.prog 46 4 = some (6, 3) := by kernel_rfl
@[go_sem] theorem es46 : elemS Tryz.prog 46 = none := by kernel_rfl
@[go_sem] theorem ha46 : hasT Tryz.prog 46 = true := by kernel_rfl
@[go_sem] theorem ic46 : isIfc Tryz.prog 46 = false := by kernel_rfl
@[go_sem] theorem pl46 : placesOf Tryz.prog 46 = some [(0, 1), (1, 1), (2, 1), (3, 3), (6, 1)] := by kernel_rfl
@[go_sem] theorem by46 : bytesOf Tryz.prog 46 = some 120 := by kernel_rfl
@[go_sem] theorem ze46 : zeroOf Tryz.prog 46 = some (.agg #[(.string ByteArray.empty), (.slice none 0 0), (.slice none 0 0), (.string ByteArray.empty), (.slice none 0 0), (.int .i64 0), (.int .i64 0)]) := by kernel_rfl
@[go_sem] theorem sz48 : szOf Tryz.prog 48 = some 23 := by kernel_rfl
@[go_sem] theorem ag48 : aggOf Tryz.prog 48 = some true := by kernel_rfl
@[go_sem] theorem fl48_0 : fldOf Tryz.prog 48 0 = some (0, 3) := by kernel_rfl
@[go_sem] theorem fl48_1 : fldOf Tryz.prog 48 1 = some (1, 9) := by kernel_rfl
@[go_sem] theorem fl48_2 : fldOf Tryz.prog 48 2 = some (2, 41) := by kernel_rfl
@[go_sem] theorem fl48_3 : fldOf Tryz.prog 48 3 = some (3, 42) := by kernel_rfl
@[go_sem] theorem fl48_4 : fldOf Tryz.prog 48 4 = some (4, 43) := by kernel_rfl
@[go_sem] theorem fl48_5 : fldOf Tryz.prog 48 5 = some (5, 9) := by kernel_rfl
@[go_sem] theorem fl48_6 : fldOf Tryz.prog 48 6 = some (6, 44) := by kernel_rfl
@[go_sem] theorem fl48_7 : fldOf Tryz.prog 48 7 = some (7, 46) := by kernel_rfl
@[go_sem] theorem fl48_8 : fldOf Tryz.prog 48 8 = some (14, 28) := by kernel_rfl
@[go_sem] theorem fl48_9 : fldOf Tryz.prog 48 9 = some (22, 3) := by kernel_rfl
@[go_sem] theorem es48 : elemS Tryz.prog 48 = none := by kernel_rfl
@[go_sem] theorem ha48 : hasT Tryz.prog 48 = true := by kernel_rfl
@[go_sem] theorem ic48 : isIfc Tryz.prog 48 = false := by kernel_rfl
@[go_sem] theorem pl48 : placesOf Tryz.prog 48 = some [(0, 1), (1, 1), (2, 1), (3, 1), (4, 1), (5, 1), (6, 1), (7, 7), (14, 8), (22, 1)] := by kernel_rfl
@[go_sem] theorem by48 : bytesOf Tryz.prog 48 = some 392 := by kernel_rfl
@[go_sem] theorem ze48 : zeroOf Tryz.prog 48 = some (.agg #[(.int .i64 0), (.string ByteArray.empty), (.slice none 0 0), (.slice none 0 0), (.slice none 0 0), (.string ByteArray.empty), (.slice none 0 0), (.string ByteArray.empty), (.slice none 0 0), (.slice none 0 0), (.string ByteArray.empty), (.slice none 0 0), (.int .i64 0), (.int .i64 0), (.int .i64 0), (.string ByteArray.empty), (.string ByteArray.empty), (.slice none 0 0), (.int .i64 0), (.slice none 0 0), (.slice none 0 0), (.int .i64 0), (.int .i64 0)]) := by kernel_rfl
@[go_sem] theorem sz52 : szOf Tryz.prog 52 = some 1 := by kernel_rfl
@[go_sem] theorem ag52 : aggOf Tryz.prog 52 = some false := by kernel_rfl
@[go_sem] theorem es52 : elemS Tryz.prog 52 = none := by kernel_rfl
@[go_sem] theorem ha52 : hasT Tryz.prog 52 = true := by kernel_rfl
@[go_sem] theorem ic52 : isIfc Tryz.prog 52 = false := by kernel_rfl
@[go_sem] theorem by52 : bytesOf Tryz.prog 52 = some 8 := by kernel_rfl
@[go_sem] theorem ze52 : zeroOf Tryz.prog 52 = some .nilFunc := by kernel_rfl
@[go_sem] theorem sz54 : szOf Tryz.prog 54 = some 1 := by kernel_rfl
@[go_sem] theorem ag54 : aggOf Tryz.prog 54 = some false := by kernel_rfl
@[go_sem] theorem es54 : elemS Tryz.prog 54 = none := by kernel_rfl
@[go_sem] theorem ha54 : hasT Tryz.prog 54 = true := by kernel_rfl
@[go_sem] theorem ic54 : isIfc Tryz.prog 54 = false := by kernel_rfl
@[go_sem] theorem by54 : bytesOf Tryz.prog 54 = some 8 := by kernel_rfl
@[go_sem] theorem mp54 : mapT Tryz.prog 54 = some (9, 4) := by kernel_rfl
@[go_sem] theorem ks9 : KS.of Tryz.prog 9 = some (.one .str) := by kernel_rfl
@[go_sem] theorem ze54 : zeroOf Tryz.prog 54 = some (.map none) := by kernel_rfl
@[go_sem] theorem sz56 : szOf Tryz.prog 56 = some 5 := by kernel_rfl
@[go_sem] theorem ag56 : aggOf Tryz.prog 56 = some true := by kernel_rfl
@[go_sem] theorem fl56_0 : fldOf Tryz.prog 56 0 = some (0, 3) := by kernel_rfl
@[go_sem] theorem fl56_1 : fldOf Tryz.prog 56 1 = some (1, 3) := by kernel_rfl
@[go_sem] theorem fl56_2 : fldOf Tryz.prog 56 2 = some (2, 3) := by kernel_rfl
@[go_sem] theorem fl56_3 : fldOf Tryz.prog 56 3 = some (3, 3) := by kernel_rfl
@[go_sem] theorem fl56_4 : fldOf Tryz.prog 56 4 = some (4, 54) := by kernel_rfl
@[go_sem] theorem es56 : elemS Tryz.prog 56 = none := by kernel_rfl
@[go_sem] theorem ha56 : hasT Tryz.prog 56 = true := by kernel_rfl
@[go_sem] theorem ic56 : isIfc Tryz.prog 56 = false := by kernel_rfl
@[go_sem] theorem pl56 : placesOf Tryz.prog 56 = some [(0, 1), (1, 1), (2, 1), (3, 1), (4, 1)] := by kernel_rfl
@[go_sem] theorem by56 : bytesOf Tryz.prog 56 = some 40 := by kernel_rfl
@[go_sem] theorem ze56 : zeroOf Tryz.prog 56 = some (.agg #[(.int .i64 0), (.int .i64 0), (.int .i64 0), (.int .i64 0), (.map none)]) := by kernel_rfl
@[go_sem] theorem sz78 : szOf Tryz.prog 78 = some 1 := by kernel_rfl
@[go_sem] theorem ag78 : aggOf Tryz.prog 78 = some false := by kernel_rfl
@[go_sem] theorem es78 : elemS Tryz.prog 78 = some 120 := by kernel_rfl
@[go_sem] theorem ha78 : hasT Tryz.prog 78 = true := by kernel_rfl
@[go_sem] theorem ic78 : isIfc Tryz.prog 78 = false := by kernel_rfl
@[go_sem] theorem by78 : bytesOf Tryz.prog 78 = some 24 := by kernel_rfl
@[go_sem] theorem ze78 : zeroOf Tryz.prog 78 = some (.slice none 0 0) := by kernel_rfl
@[go_sem] theorem sz82 : szOf Tryz.prog 82 = some 5 := by kernel_rfl
@[go_sem] theorem ag82 : aggOf Tryz.prog 82 = some true := by kernel_rfl
@[go_sem] theorem fl82_0 : fldOf Tryz.prog 82 0 = some (0, 9) := by kernel_rfl
@[go_sem] theorem fl82_1 : fldOf Tryz.prog 82 1 = some (1, 25) := by kernel_rfl
@[go_sem] theorem fl82_2 : fldOf Tryz.prog 82 2 = some (4, 3) := by kernel_rfl
@[go_sem] theorem es82 : elemS Tryz.prog 82 = none := by kernel_rfl
@[go_sem] theorem ha82 : hasT Tryz.prog 82 = true := by kernel_rfl
@[go_sem] theorem ic82 : isIfc Tryz.prog 82 = false := by kernel_rfl
@[go_sem] theorem pl82 : placesOf Tryz.prog 82 = some [(0, 1), (1, 3), (4, 1)] := by kernel_rfl
@[go_sem] theorem by82 : bytesOf Tryz.prog 82 = some 72 := by kernel_rfl
@[go_sem] theorem ze82 : zeroOf Tryz.prog 82 = some (.agg #[(.string ByteArray.empty), (.string ByteArray.empty), (.slice none 0 0), (.int .i64 0), (.int .i64 0)]) := by kernel_rfl
@[go_sem] theorem sz84 : szOf Tryz.prog 84 = some 5 := by kernel_rfl
@[go_sem] theorem ag84 : aggOf Tryz.prog 84 = some true := by kernel_rfl
@[go_sem] theorem fl84_0 : fldOf Tryz.prog 84 0 = some (0, 9) := by kernel_rfl
@[go_sem] theorem fl84_1 : fldOf Tryz.prog 84 1 = some (1, 25) := by kernel_rfl
@[go_sem] theorem fl84_2 : fldOf Tryz.prog 84 2 = some (4, 3) := by kernel_rfl
@[go_sem] theorem es84 : elemS Tryz.prog 84 = none := by kernel_rfl
@[go_sem] theorem ha84 : hasT Tryz.prog 84 = true := by kernel_rfl
@[go_sem] theorem ic84 : isIfc Tryz.prog 84 = false := by kernel_rfl
@[go_sem] theorem pl84 : placesOf Tryz.prog 84 = some [(0, 1), (1, 3), (4, 1)] := by kernel_rfl
@[go_sem] theorem by84 : bytesOf Tryz.prog 84 = some 72 := by kernel_rfl
@[go_sem] theorem ze84 : zeroOf Tryz.prog 84 = some (.agg #[(.string ByteArray.empty), (.string ByteArray.empty), (.slice none 0 0), (.int .i64 0), (.int .i64 0)]) := by kernel_rfl
@[go_sem] theorem sz87 : szOf Tryz.prog 87 = some 1 := by kernel_rfl
@[go_sem] theorem ag87 : aggOf Tryz.prog 87 = some false := by kernel_rfl
@[go_sem] theorem es87 : elemS Tryz.prog 87 = some 5 := by kernel_rfl
@[go_sem] theorem ha87 : hasT Tryz.prog 87 = true := by kernel_rfl
@[go_sem] theorem ic87 : isIfc Tryz.prog 87 = false := by kernel_rfl
@[go_sem] theorem by87 : bytesOf Tryz.prog 87 = some 24 := by kernel_rfl
@[go_sem] theorem bt87 : isBytesT Tryz.prog 87 = true := by kernel_rfl
@[go_sem] theorem ze87 : zeroOf Tryz.prog 87 = some (.slice none 0 0) := by kernel_rfl
@[go_sem] theorem sz90 : szOf Tryz.prog 90 = some 1 := by kernel_rfl
@[go_sem] theorem ag90 : aggOf Tryz.prog 90 = some false := by kernel_rfl
@[go_sem] theorem es90 : elemS Tryz.prog 90 = none := by kernel_rfl
@[go_sem] theorem ha90 : hasT Tryz.prog 90 = true := by kernel_rfl
@[go_sem] theorem ic90 : isIfc Tryz.prog 90 = false := by kernel_rfl
@[go_sem] theorem io90 : intOfT Tryz.prog 90 = some .u64 := by kernel_rfl
@[go_sem] theorem by90 : bytesOf Tryz.prog 90 = some 8 := by kernel_rfl
@[go_sem] theorem ze90 : zeroOf Tryz.prog 90 = some (.int .u64 0) := by kernel_rfl
@[go_sem] theorem sz120 : szOf Tryz.prog 120 = some 3 := by kernel_rfl
@[go_sem] theorem ag120 : aggOf Tryz.prog 120 = some true := by kernel_rfl
@[go_sem] theorem fl120_0 : fldOf Tryz.prog 120 0 = some (0, 4) := by kernel_rfl
@[go_sem] theorem fl120_1 : fldOf Tryz.prog 120 1 = some (1, 9) := by kernel_rfl
@[go_sem] theorem fl120_2 : fldOf Tryz.prog 120 2 = some (2, 3) := by kernel_rfl
@[go_sem] theorem es120 : elemS Tryz.prog 120 = none := by kernel_rfl
@[go_sem] theorem ha120 : hasT Tryz.prog 120 = true := by kernel_rfl
@[go_sem] theorem ic120 : isIfc Tryz.prog 120 = false := by kernel_rfl
@[go_sem] theorem pl120 : placesOf Tryz.prog 120 = some [(0, 1), (1, 1), (2, 1)] := by kernel_rfl
@[go_sem] theorem by120 : bytesOf Tryz.prog 120 = some 32 := by kernel_rfl
@[go_sem] theorem eg120 : egOf Tryz.prog 120 = false := by kernel_rfl
@[go_sem] theorem ks120 : KS.of Tryz.prog 120 = some (.agg [.boo, .str, (.num .i64)]) := by kernel_rfl
@[go_sem] theorem ze120 : zeroOf Tryz.prog 120 = some (.agg #[(.bool false), (.string ByteArray.empty), (.int .i64 0)]) := by kernel_rfl
@[go_sem] theorem sz121 : szOf Tryz.prog 121 = some 1 := by kernel_rfl
@[go_sem] theorem ag121 : aggOf Tryz.prog 121 = some false := by kernel_rfl
@[go_sem] theorem es121 : elemS Tryz.prog 121 = none := by kernel_rfl
@[go_sem] theorem ha121 : hasT Tryz.prog 121 = true := by kernel_rfl
@[go_sem] theorem ic121 : isIfc Tryz.prog 121 = false := by kernel_rfl
@[go_sem] theorem by121 : bytesOf Tryz.prog 121 = some 8 := by kernel_rfl
@[go_sem] theorem ze121 : zeroOf Tryz.prog 121 = some .nilFunc := by kernel_rfl
@[go_sem] theorem sz124 : szOf Tryz.prog 124 = some 1 := by kernel_rfl
@[go_sem] theorem ag124 : aggOf Tryz.prog 124 = some false := by kernel_rfl
@[go_sem] theorem es124 : elemS Tryz.prog 124 = none := by kernel_rfl
@[go_sem] theorem ha124 : hasT Tryz.prog 124 = true := by kernel_rfl
@[go_sem] theorem ic124 : isIfc Tryz.prog 124 = false := by kernel_rfl
@[go_sem] theorem by124 : bytesOf Tryz.prog 124 = some 8 := by kernel_rfl
@[go_sem] theorem ze124 : zeroOf Tryz.prog 124 = some .nilFunc := by kernel_rfl
@[go_sem] theorem sz130 : szOf Tryz.prog 130 = some 1 := by kernel_rfl
@[go_sem] theorem ag130 : aggOf Tryz.prog 130 = some false := by kernel_rfl
@[go_sem] theorem es130 : elemS Tryz.prog 130 = none := by kernel_rfl
@[go_sem] theorem ha130 : hasT Tryz.prog 130 = true := by kernel_rfl
@[go_sem] theorem ic130 : isIfc Tryz.prog 130 = false := by kernel_rfl
@[go_sem] theorem by130 : bytesOf Tryz.prog 130 = some 8 := by kernel_rfl
@[go_sem] theorem ze130 : zeroOf Tryz.prog 130 = some .nilFunc := by kernel_rfl
@[go_sem] theorem sz131 : szOf Tryz.prog 131 = some 1 := by kernel_rfl
@[go_sem] theorem ag131 : aggOf Tryz.prog 131 = some false := by kernel_rfl
@[go_sem] theorem es131 : elemS Tryz.prog 131 = none := by kernel_rfl
@[go_sem] theorem ha131 : hasT Tryz.prog 131 = true := by kernel_rfl
@[go_sem] theorem ic131 : isIfc Tryz.prog 131 = false := by kernel_rfl
@[go_sem] theorem by131 : bytesOf Tryz.prog 131 = some 8 := by kernel_rfl
@[go_sem] theorem ip131 : isPtrT Tryz.prog 131 = true := by kernel_rfl
@[go_sem] theorem ze131 : zeroOf Tryz.prog 131 = some (.pointer none) := by kernel_rfl
@[go_sem] theorem sz132 : szOf Tryz.prog 132 = some 1 := by kernel_rfl
@[go_sem] theorem ag132 : aggOf Tryz.prog 132 = some false := by kernel_rfl
@[go_sem] theorem es132 : elemS Tryz.prog 132 = none := by kernel_rfl
@[go_sem] theorem ha132 : hasT Tryz.prog 132 = true := by kernel_rfl
@[go_sem] theorem ic132 : isIfc Tryz.prog 132 = false := by kernel_rfl
@[go_sem] theorem by132 : bytesOf Tryz.prog 132 = some 8 := by kernel_rfl
@[go_sem] theorem ze132 : zeroOf Tryz.prog 132 = some .nilFunc := by kernel_rfl
@[go_sem] theorem sz133 : szOf Tryz.prog 133 = some 1 := by kernel_rfl
@[go_sem] theorem ag133 : aggOf Tryz.prog 133 = some false := by kernel_rfl
@[go_sem] theorem es133 : elemS Tryz.prog 133 = none := by kernel_rfl
@[go_sem] theorem ha133 : hasT Tryz.prog 133 = true := by kernel_rfl
@[go_sem] theorem ic133 : isIfc Tryz.prog 133 = false := by kernel_rfl
@[go_sem] theorem by133 : bytesOf Tryz.prog 133 = some 8 := by kernel_rfl
@[go_sem] theorem ze133 : zeroOf Tryz.prog 133 = some .nilFunc := by kernel_rfl
@[go_sem] theorem sz138 : szOf Tryz.prog 138 = some 1 := by kernel_rfl
@[go_sem] theorem ag138 : aggOf Tryz.prog 138 = some false := by kernel_rfl
@[go_sem] theorem es138 : elemS Tryz.prog 138 = none := by kernel_rfl
@[go_sem] theorem ha138 : hasT Tryz.prog 138 = true := by kernel_rfl
@[go_sem] theorem ic138 : isIfc Tryz.prog 138 = false := by kernel_rfl
@[go_sem] theorem by138 : bytesOf Tryz.prog 138 = some 0 := by kernel_rfl
@[go_sem] theorem sz161 : szOf Tryz.prog 161 = some 1 := by kernel_rfl
@[go_sem] theorem ag161 : aggOf Tryz.prog 161 = some false := by kernel_rfl
@[go_sem] theorem es161 : elemS Tryz.prog 161 = none := by kernel_rfl
@[go_sem] theorem ha161 : hasT Tryz.prog 161 = true := by kernel_rfl
@[go_sem] theorem ic161 : isIfc Tryz.prog 161 = false := by kernel_rfl
@[go_sem] theorem io161 : intOfT Tryz.prog 161 = some .u64 := by kernel_rfl
@[go_sem] theorem by161 : bytesOf Tryz.prog 161 = some 8 := by kernel_rfl
@[go_sem] theorem ze161 : zeroOf Tryz.prog 161 = some (.int .u64 0) := by kernel_rfl
@[go_sem] theorem sz164 : szOf Tryz.prog 164 = some 1 := by kernel_rfl
@[go_sem] theorem ag164 : aggOf Tryz.prog 164 = some false := by kernel_rfl
@[go_sem] theorem es164 : elemS Tryz.prog 164 = some 23 := by kernel_rfl
@[go_sem] theorem ha164 : hasT Tryz.prog 164 = true := by kernel_rfl
@[go_sem] theorem ic164 : isIfc Tryz.prog 164 = false := by kernel_rfl
@[go_sem] theorem by164 : bytesOf Tryz.prog 164 = some 24 := by kernel_rfl
@[go_sem] theorem ze164 : zeroOf Tryz.prog 164 = some (.slice none 0 0) := by kernel_rfl
@[go_sem] theorem sz186 : szOf Tryz.prog 186 = some 1 := by kernel_rfl
@[go_sem] theorem ag186 : aggOf Tryz.prog 186 = some false := by kernel_rfl
@[go_sem] theorem es186 : elemS Tryz.prog 186 = none := by kernel_rfl
@[go_sem] theorem ha186 : hasT Tryz.prog 186 = true := by kernel_rfl
@[go_sem] theorem ic186 : isIfc Tryz.prog 186 = false := by kernel_rfl
@[go_sem] theorem io186 : intOfT Tryz.prog 186 = some .i64 := by kernel_rfl
@[go_sem] theorem by186 : bytesOf Tryz.prog 186 = some 8 := by kernel_rfl
@[go_sem] theorem ze186 : zeroOf Tryz.prog 186 = some (.int .i64 0) := by kernel_rfl
@[go_sem] theorem sz187 : szOf Tryz.prog 187 = some 1 := by kernel_rfl
@[go_sem] theorem ag187 : aggOf Tryz.prog 187 = some false := by kernel_rfl
@[go_sem] theorem es187 : elemS Tryz.prog 187 = none := by kernel_rfl
@[go_sem] theorem ha187 : hasT Tryz.prog 187 = true := by kernel_rfl
@[go_sem] theorem ic187 : isIfc Tryz.prog 187 = false := by kernel_rfl
@[go_sem] theorem by187 : bytesOf Tryz.prog 187 = some 0 := by kernel_rfl
@[go_sem] theorem sz193 : szOf Tryz.prog 193 = some 1 := by kernel_rfl
@[go_sem] theorem ag193 : aggOf Tryz.prog 193 = some false := by kernel_rfl
@[go_sem] theorem es193 : elemS Tryz.prog 193 = none := by kernel_rfl
@[go_sem] theorem ha193 : hasT Tryz.prog 193 = true := by kernel_rfl
@[go_sem] theorem ic193 : isIfc Tryz.prog 193 = false := by kernel_rfl
@[go_sem] theorem io193 : intOfT Tryz.prog 193 = some .u32 := by kernel_rfl
@[go_sem] theorem by193 : bytesOf Tryz.prog 193 = some 4 := by kernel_rfl
@[go_sem] theorem ze193 : zeroOf Tryz.prog 193 = some (.int .u32 0) := by kernel_rfl
@[go_sem] theorem sz195 : szOf Tryz.prog 195 = some 1 := by kernel_rfl
@[go_sem] theorem ag195 : aggOf Tryz.prog 195 = some false := by kernel_rfl
@[go_sem] theorem es195 : elemS Tryz.prog 195 = some 3 := by kernel_rfl
@[go_sem] theorem ha195 : hasT Tryz.prog 195 = true := by kernel_rfl
@[go_sem] theorem ic195 : isIfc Tryz.prog 195 = false := by kernel_rfl
@[go_sem] theorem by195 : bytesOf Tryz.prog 195 = some 24 := by kernel_rfl
@[go_sem] theorem ze195 : zeroOf Tryz.prog 195 = some (.slice none 0 0) := by kernel_rfl
@[go_sem] theorem sz205 : szOf Tryz.prog 205 = some 1 := by kernel_rfl
@[go_sem] theorem ag205 : aggOf Tryz.prog 205 = some false := by kernel_rfl
@[go_sem] theorem es205 : elemS Tryz.prog 205 = none := by kernel_rfl
@[go_sem] theorem ha205 : hasT Tryz.prog 205 = true := by kernel_rfl
@[go_sem] theorem ic205 : isIfc Tryz.prog 205 = false := by kernel_rfl
@[go_sem] theorem io205 : intOfT Tryz.prog 205 = some .u64 := by kernel_rfl
@[go_sem] theorem by205 : bytesOf Tryz.prog 205 = some 8 := by kernel_rfl
@[go_sem] theorem ze205 : zeroOf Tryz.prog 205 = some (.int .u64 0) := by kernel_rfl
@[go_sem] theorem sz209 : szOf Tryz.prog 209 = some 1 := by kernel_rfl
@[go_sem] theorem ag209 : aggOf Tryz.prog 209 = some false := by kernel_rfl
@[go_sem] theorem es209 : elemS Tryz.prog 209 = none := by kernel_rfl
@[go_sem] theorem ha209 : hasT Tryz.prog 209 = true := by kernel_rfl
@[go_sem] theorem ic209 : isIfc Tryz.prog 209 = false := by kernel_rfl
@[go_sem] theorem by209 : bytesOf Tryz.prog 209 = some 8 := by kernel_rfl
@[go_sem] theorem ip209 : isPtrT Tryz.prog 209 = true := by kernel_rfl
@[go_sem] theorem ze209 : zeroOf Tryz.prog 209 = some (.pointer none) := by kernel_rfl
@[go_sem] theorem sz214 : szOf Tryz.prog 214 = some 1 := by kernel_rfl
@[go_sem] theorem ag214 : aggOf Tryz.prog 214 = some false := by kernel_rfl
@[go_sem] theorem es214 : elemS Tryz.prog 214 = none := by kernel_rfl
@[go_sem] theorem ha214 : hasT Tryz.prog 214 = true := by kernel_rfl
@[go_sem] theorem ic214 : isIfc Tryz.prog 214 = false := by kernel_rfl
@[go_sem] theorem by214 : bytesOf Tryz.prog 214 = some 8 := by kernel_rfl
@[go_sem] theorem ip214 : isPtrT Tryz.prog 214 = true := by kernel_rfl
@[go_sem] theorem ze214 : zeroOf Tryz.prog 214 = some (.pointer none) := by kernel_rfl
@[go_sem] theorem sz215 : szOf Tryz.prog 215 = some 1 := by kernel_rfl
@[go_sem] theorem ag215 : aggOf Tryz.prog 215 = some false := by kernel_rfl
@[go_sem] theorem es215 : elemS Tryz.prog 215 = none := by kernel_rfl
@[go_sem] theorem ha215 : hasT Tryz.prog 215 = true := by kernel_rfl
@[go_sem] theorem ic215 : isIfc Tryz.prog 215 = false := by kernel_rfl
@[go_sem] theorem by215 : bytesOf Tryz.prog 215 = some 0 := by kernel_rfl
end Go.Proofs.T

namespace Go.Proofs.T
open Go Go.Ab Go.RowKit

mutual
def count : Ty → Nat → Nat
  | .mk nm xs _, n => countL xs (n + 1 + nm.size / 50)
def countL : List Ty → Nat → Nat
  | [], n => n
  | t :: r, n => if n ≤ 2000 then countL r (count t n) else n
end
theorem count_eq (t : Ty) (n : Nat) : count t n = countL t.args (n + 1 + t.name.size / 50) := by cases t; simp [count]
theorem countL_le {l : List Ty} {n : Nat} (h : 2000 < n) : countL l n = n := by cases l <;> simp [countL]; omega

def big : Nat := 184467440737097518
mutual
theorem count_bound : ∀ (t : Ty) (n : Nat), okTy t → count t n ≤ Nat.max n 2000 + big
  | .mk nm xs p, n, h => by
    simp only [count]
    simp only [okTy] at h
    have h1 : n + 1 + nm.size / 50 ≤ Nat.max n 2000 + big := by
      have : n ≤ Nat.max n 2000 := Nat.le_max_left ..
      unfold big; omega
    have := countL_bound xs (n + 1 + nm.size / 50) (Nat.max n 2000) h.2.2 (Nat.le_max_right ..) h1
    exact this
theorem countL_bound : ∀ (l : List Ty) (n m : Nat), okTys l → 2000 ≤ m → n ≤ m + big → countL l n ≤ m + big
  | [], n, m, _, h2, h => by simpa [countL] using h
  | t :: r, n, m, hk, h2, h => by
    simp only [countL]
    simp only [okTys] at hk
    split
    · rename_i hn
      refine countL_bound r _ m hk.2 h2 ?_
      have := count_bound t n hk.1
      have : Nat.max n 2000 = 2000 := Nat.max_eq_right hn
      omega
    · exact h
end

set_option maxRecDepth 10000 in
theorem count_calls : ∀ (t : Ty), okTy t → ∀ (n g d : Nat), n ≤ 4611686018427387904 → ACalls E 64 [encTy t, dN n] [] g d (dN (count t n)) [] := by
  refine Ty.ind fun t ih => ?_
  intro ht n g d hn
  obtain ⟨hs1, hs2, hs3⟩ := (okTy_iff t).1 ht
  refine acalls_of_awp (fn := Tryz.f64) (N := 32) Tryz.call64 Tryz.func64 rfl rfl (by simp) ?_
  simp only [go_sem]
  refine awp_seq_k (fun K1 hK1 => ?_)
  refine awp_plain 2 (by kernel_rfl) rfl (fun g0 hg0 => ?_)
  simp only [go_sem]
  refine hK1 _ ?_
  refine awp_seq_k (fun K2 hK2 => ?_)
  refine awp_plain 8 (by kernel_rfl) rfl (fun g1 hg1 => ?_)
  simp only [go_sem]
  try simp (disch := omega) only [wrapN, Int.tdiv_eq_ediv_of_nonneg]
  refine hK2 _ ?_
  refine awp_seq_k (fun K3 hK3 => ?_)
  refine awp_seq_k (fun K4 hK4 => ?_)
  refine awp_plain 1 (by kernel_rfl) rfl (fun g2 hg2 => ?_)
  simp only [go_sem]
  refine hK4 _ ?_
  refine awp_block ?_
  refine awp_loop (fun m s => ∃ k n', k ≤ t.args.length ∧ m = t.args.length - k ∧ n' ≤ 4611686018427387904 + big ∧ countL (t.args.drop k) n' = count t n ∧
      Le { env := [(1, dN n'), (2, .ptr ⟨g0, 2, 0⟩ 0), (5, dN k)], σ := [(⟨g0, 2, 0⟩, .box 25 (tyC t))] } s) t.args.length ?_ ?_
  · refine ⟨0, n + 1 + t.name.size / 50, Nat.zero_le _, rfl, by unfold big; omega, by rw [count_eq]; rfl, le_of ?_⟩
    simp only [go_sem, tyC]
    omega
  · rintro m s ⟨k, n', hk, rfl, hn', hc, hle⟩
    refine awp_keep hle ?_
    clear hle
    by_cases hlt : k < t.args.length
    · by_cases hle : (n' : Int) ≤ 2000
      · refine awp_seq_k (fun K5 hK5 => ?_)
        refine awp_seq_k (fun K6 hK6 => ?_)
        refine awp_plain 9 (by kernel_rfl) rfl (fun g3 hg3 => ?_)
        simp only [go_sem, tyC, hlt, hle]
        refine hK6 _ ?_
        refine awp_t rfl ?_
        refine awp_skip ?_
        refine hK5 _ ?_
        refine awp_seq_k (fun K7 hK7 => ?_)
        refine awp_block ?_
        refine awp_ops (by kernel_rfl) rfl (fun g5 hg5 ops5 KR5 hops5 hKR5 => ?_)
        refine aops_eval 6 hops5 ?_
        simp only [go_sem, getM hlt]
        refine aops_pure hops5 rfl rfl rfl (ih _ (List.getElem_mem _) (hs3 _ (List.getElem_mem _)) n' _ _ (by omega)) (CoL.refl _) ?_
        refine aops_last 1 hops5 ?_
        simp only [go_sem]
        refine hKR5 _ ?_
        refine hK7 _ ?_
        refine awp_plain 3 (by kernel_rfl) rfl (fun g4 hg4 => ?_)
        simp only [go_sem]
        try simp (disch := omega) only [wrapN]
        have e : countL (t.args.drop k) n' = countL (t.args.drop (k + 1)) (count t.args[k] n') := by
          rw [List.drop_eq_getElem_cons hlt]; simp only [countL]; rw [if_pos (by omega)]
        have e2 := count_bound t.args[k] n' (hs3 _ (List.getElem_mem _))
        have e3 : Nat.max n' 2000 ≤ 4611686018427387904 := Nat.max_le.2 ⟨by omega, by omega⟩
        refine ⟨_, ?_, k + 1, count t.args[k] n', hlt, rfl, ?_, by rw [← e]; exact hc, le_of ?_⟩
        · omega
        · omega
        simp only [go_sem, tyC]
        omega
      · refine awp_seq_k (fun K8 hK8 => ?_)
        refine awp_seq_k (fun K9 hK9 => ?_)
        refine awp_plain 9 (by kernel_rfl) rfl (fun g3 hg3 => ?_)
        simp only [go_sem, tyC, hlt, hle]
        refine hK9 _ ?_
        rw [countL_le (by omega)] at hc
        subst hc
        refine awp_f rfl ?_
        refine awp_exit ?_
        refine hK3 _ ?_
        refine awp_seq_k (fun K10 hK10 => ?_)
        refine awp_plain 2 (by kernel_rfl) rfl (fun g6 hg6 => ?_)
        simp only [go_sem]
        refine hK10 _ ?_
        refine awp_ret ?_
        refine ends_ev rfl ?_
        simp only [go_sem]
        exact Co.refl _
    · refine awp_seq_k (fun K11 hK11 => ?_)
      refine awp_seq_k (fun K12 hK12 => ?_)
      refine awp_plain 9 (by kernel_rfl) rfl (fun g3 hg3 => ?_)
      simp only [go_sem, tyC, hlt]
      refine hK12 _ ?_
      rw [List.drop_eq_nil_of_le (by omega)] at hc
      simp only [countL] at hc
      subst hc
      refine awp_f rfl ?_
      refine awp_exit ?_
      refine hK3 _ ?_
      refine awp_seq_k (fun K13 hK13 => ?_)
      refine awp_plain 2 (by kernel_rfl) rfl (fun g6 hg6 => ?_)
      simp only [go_sem]
      refine hK13 _ ?_
      refine awp_ret ?_
      refine ends_ev rfl ?_
      simp only [go_sem]
      exact Co.refl _
end Go.Proofs.T


namespace Go.Proofs.T
open Go Go.Ab Go.RowKit

/-! ## Comparing -/

def cmpL : List UInt8 → List UInt8 → Int
  | [], [] => 0
  | [], _ :: _ => -1
  | _ :: _, [] => 1
  | a :: x, b :: y => if a < b then -1 else if b < a then 1 else cmpL x y

def cmpS (a b : Str) : Int := cmpL a.data.toList b.data.toList

theorem cmpL_zero : ∀ {x y : List UInt8}, cmpL x y = 0 ↔ x = y
  | [], [] => by simp [cmpL]
  | [], _ :: _ => by simp [cmpL]
  | _ :: _, [] => by simp [cmpL]
  | a :: x, b :: y => by
    simp only [cmpL]
    split
    · rename_i h; simp; rintro rfl; exact absurd h (by simp)
    · split
      · rename_i h; simp; rintro rfl; exact absurd h (by simp)
      · rename_i h1 h2
        have : a = b := by
          apply UInt8.le_antisymm
          · exact UInt8.not_lt.1 h2
          · exact UInt8.not_lt.1 h1
        subst this
        simp [cmpL_zero (x := x) (y := y)]

theorem cmpS_zero {a b : Str} : cmpS a b = 0 ↔ a = b := by
  unfold cmpS
  rw [cmpL_zero, Array.toList_inj]
  constructor
  · intro h; cases a; cases b; simp_all
  · rintro rfl; rfl

theorem str_get {s : Str} {k : Nat} (h : k < s.size) : s[k]? = some (s.data.toList[k]'h) := by
  have : s[k]? = some s[k] := getElem?_pos s k h
  rw [this]; rfl

theorem cmpL_less : ∀ (x y : List UInt8), Op.bytesLess x y = decide (cmpL x y = -1)
  | [], [] => by simp [Op.bytesLess, cmpL]
  | [], _ :: _ => by simp [Op.bytesLess, cmpL]
  | _ :: _, [] => by simp [Op.bytesLess, cmpL]
  | a :: x, b :: y => by
    simp only [Op.bytesLess, cmpL]
    by_cases h1 : a < b
    · simp [h1]
    · by_cases h2 : b < a
      · simp [h1, h2]; intro h; subst h; simp at h2
      · have : a = b := UInt8.le_antisymm (UInt8.not_lt.1 h2) (UInt8.not_lt.1 h1)
        subst this
        simp [h1, cmpL_less x y]

theorem cmpL_range : ∀ (x y : List UInt8), cmpL x y = -1 ∨ cmpL x y = 0 ∨ cmpL x y = 1
  | [], [] => by simp [cmpL]
  | [], _ :: _ => by simp [cmpL]
  | _ :: _, [] => by simp [cmpL]
  | a :: x, b :: y => by
    simp only [cmpL]
    split
    · simp
    · split
      · simp
      · exact cmpL_range x y

theorem cmpS_less (a b : Str) : Op.bytesLess a.toList b.toList = decide (cmpS a b = -1) := by
  rw [cmpL_less, ByteArray.toList_eq, ByteArray.toList_eq]; rfl

set_option maxRecDepth 10000 in
theorem compareS_calls (a b : Str) (ha : a.size ≤ 9223372036854775807) (g d : Nat) :
    ACalls E 56 [encS a, encS b] [] g d (dI (cmpS a b)) [] := by
  refine acalls_of_awp (fn := Tryz.f56) (N := 42) Tryz.call56 Tryz.func56 rfl rfl (by simp) ?_
  simp only [go_sem]
  refine awp_seq_k (fun K1 hK1 => ?_)
  refine awp_plain 1 (by kernel_rfl) rfl (fun g0 hg0 => ?_)
  simp only [go_sem]
  refine hK1 _ ?_
  refine awp_seq_k (fun K2 hK2 => ?_)
  refine awp_seq_k (fun K3 hK3 => ?_)
  refine awp_plain 1 (by kernel_rfl) rfl (fun g1 hg1 => ?_)
  simp only [go_sem]
  refine hK3 _ ?_
  refine awp_block ?_
  refine awp_loop (fun m s => ∃ k, k ≤ a.size ∧ k ≤ b.size ∧ m = a.size - k ∧ cmpL (a.data.toList.drop k) (b.data.toList.drop k) = cmpS a b ∧
      Le { env := [(0, encS a), (1, encS b), (5, dN k)], σ := [] } s) a.size ?_ ?_
  · refine ⟨0, Nat.zero_le _, Nat.zero_le _, rfl, rfl, le_of ?_⟩
    simp only [go_sem]
    trivial
  · rintro m s ⟨k, hka, hkb, rfl, hc, hle⟩
    refine awp_keep hle ?_
    clear hle
    by_cases ha : k < a.size
    · by_cases hb : k < b.size
      · rw [List.drop_eq_getElem_cons (show k < a.data.toList.length from ha), List.drop_eq_getElem_cons (show k < b.data.toList.length from hb)] at hc
        simp only [cmpL] at hc
        refine awp_seq_k (fun K4 hK4 => ?_)
        refine awp_seq_k (fun K5 hK5 => ?_)
        refine awp_plain 10 (by kernel_rfl) rfl (fun g2 hg2 => ?_)
        simp only [go_sem, ha, hb]
        refine hK5 _ ?_
        refine awp_t rfl ?_
        refine awp_skip ?_
        refine hK4 _ ?_
        refine awp_seq_k (fun K6 hK6 => ?_)
        refine awp_block ?_
        refine awp_seq_k (fun K7 hK7 => ?_)
        refine awp_seq_k (fun K8 hK8 => ?_)
        have h0 : (0 : Int) ≤ k := by omega
        by_cases h1 : a.data.toList[k] < b.data.toList[k]
        · rw [if_pos h1] at hc
          have h1' : (a.data.toList[k].toNat : Int) < b.data.toList[k].toNat := by exact_mod_cast UInt8.lt_iff_toNat_lt.1 h1
          refine awp_anyq (by kernel_rfl) rfl (fun g4 hg4 ops4 KR4 hops4 hKR4 => ?_)
          refine qrun_last 7 hops4 ?_
          simp only [go_sem, h0, Int.toNat_natCast, str_get ha, str_get hb, h1']
          refine hKR4 _ ?_
          refine hK8 _ ?_
          refine awp_t rfl ?_
          refine awp_seq_k (fun K9 hK9 => ?_)
          refine awp_plain 1 (by kernel_rfl) rfl (fun g5 hg5 => ?_)
          simp only [go_sem]
          refine hK9 _ ?_
          refine awp_ret ?_
          rw [← hc]
          refine ends_ev rfl ?_
          simp only [go_sem]
          exact Co.refl _
        · rw [if_neg h1] at hc
          have h1' : ¬ (a.data.toList[k].toNat : Int) < b.data.toList[k].toNat := fun h => h1 (UInt8.lt_iff_toNat_lt.2 (by exact_mod_cast h))
          refine awp_anyq (by kernel_rfl) rfl (fun g4 hg4 ops4 KR4 hops4 hKR4 => ?_)
          refine qrun_last 7 hops4 ?_
          simp only [go_sem, h0, Int.toNat_natCast, str_get ha, str_get hb, h1']
          refine hKR4 _ ?_
          refine hK8 _ ?_
          refine awp_f rfl ?_
          refine awp_skip ?_
          refine hK7 _ ?_
          refine awp_seq_k (fun K10 hK10 => ?_)
          by_cases h2 : b.data.toList[k] < a.data.toList[k]
          · rw [if_pos h2] at hc
            have h2' : (b.data.toList[k].toNat : Int) < a.data.toList[k].toNat := by exact_mod_cast UInt8.lt_iff_toNat_lt.1 h2
            refine awp_anyq (by kernel_rfl) rfl (fun g6 hg6 ops6 KR6 hops6 hKR6 => ?_)
            refine qrun_last 7 hops6 ?_
            simp only [go_sem, h0, Int.toNat_natCast, str_get ha, str_get hb, h2']
            refine hKR6 _ ?_
            refine hK10 _ ?_
            refine awp_t rfl ?_
            refine awp_seq_k (fun K11 hK11 => ?_)
            refine awp_plain 1 (by kernel_rfl) rfl (fun g7 hg7 => ?_)
            simp only [go_sem]
            refine hK11 _ ?_
            refine awp_ret ?_
            rw [← hc]
            refine ends_ev rfl ?_
            simp only [go_sem]
            exact Co.refl _
          · rw [if_neg h2] at hc
            have h2' : ¬ (b.data.toList[k].toNat : Int) < a.data.toList[k].toNat := fun h => h2 (UInt8.lt_iff_toNat_lt.2 (by exact_mod_cast h))
            refine awp_anyq (by kernel_rfl) rfl (fun g6 hg6 ops6 KR6 hops6 hKR6 => ?_)
            refine qrun_last 7 hops6 ?_
            simp only [go_sem, h0, Int.toNat_natCast, str_get ha, str_get hb, h2']
            refine hKR6 _ ?_
            refine hK10 _ ?_
            refine awp_f rfl ?_
            refine awp_skip ?_
            refine hK6 _ ?_
            refine awp_plain 3 (by kernel_rfl) rfl (fun g3 hg3 => ?_)
            simp only [go_sem]
            try simp (disch := omega) only [wrapN]
            refine ⟨_, ?_, k + 1, ha, hb, rfl, hc, le_of ?_⟩
            · omega
            simp only [go_sem]
            omega
      · have : k = b.size := by omega
        subst this
        rw [List.drop_eq_getElem_cons (show b.size < a.data.toList.length from ha), List.drop_eq_nil_of_le (show b.data.toList.length ≤ b.size from Nat.le_refl _)] at hc
        simp only [cmpL] at hc
        have h3 : ¬ a.size < b.size := by omega
        have h4 : b.size < a.size := ha
        refine awp_seq_k (fun K12 hK12 => ?_)
        refine awp_seq_k (fun K13 hK13 => ?_)
        refine awp_plain 10 (by kernel_rfl) rfl (fun g2 hg2 => ?_)
        simp only [go_sem, ha, hb]
        refine hK13 _ ?_
        refine awp_f rfl ?_
        refine awp_exit ?_
        refine hK2 _ ?_
        refine awp_seq_k (fun K14 hK14 => ?_)
        refine awp_seq_k (fun K15 hK15 => ?_)
        refine awp_plain 5 (by kernel_rfl) rfl (fun g8 hg8 => ?_)
        simp only [go_sem, h3]
        refine hK15 _ ?_
        refine awp_f rfl ?_
        refine awp_skip ?_
        refine hK14 _ ?_
        refine awp_seq_k (fun K16 hK16 => ?_)
        refine awp_seq_k (fun K17 hK17 => ?_)
        refine awp_plain 5 (by kernel_rfl) rfl (fun g10 hg10 => ?_)
        simp only [go_sem, h4]
        refine hK17 _ ?_
        refine awp_t rfl ?_
        refine awp_seq_k (fun K18 hK18 => ?_)
        refine awp_plain 1 (by kernel_rfl) rfl (fun g11 hg11 => ?_)
        simp only [go_sem]
        refine hK18 _ ?_
        refine awp_ret ?_
        rw [← hc]
        refine ends_ev rfl ?_
        simp only [go_sem]
        exact Co.refl _
    · have : k = a.size := by omega
      subst this
      rw [List.drop_eq_nil_of_le (show a.data.toList.length ≤ a.size from Nat.le_refl _)] at hc
      refine awp_seq_k (fun K19 hK19 => ?_)
      refine awp_seq_k (fun K20 hK20 => ?_)
      refine awp_plain 10 (by kernel_rfl) rfl (fun g2 hg2 => ?_)
      simp only [go_sem, ha]
      refine hK20 _ ?_
      refine awp_f rfl ?_
      refine awp_exit ?_
      refine hK2 _ ?_
      refine awp_seq_k (fun K21 hK21 => ?_)
      refine awp_seq_k (fun K22 hK22 => ?_)
      by_cases hb : a.size < b.size
      · rw [List.drop_eq_getElem_cons (show a.size < b.data.toList.length from hb)] at hc
        simp only [cmpL] at hc
        refine awp_plain 5 (by kernel_rfl) rfl (fun g8 hg8 => ?_)
        simp only [go_sem, hb]
        refine hK22 _ ?_
        refine awp_t rfl ?_
        refine awp_seq_k (fun K23 hK23 => ?_)
        refine awp_plain 1 (by kernel_rfl) rfl (fun g9 hg9 => ?_)
        simp only [go_sem]
        refine hK23 _ ?_
        refine awp_ret ?_
        rw [← hc]
        refine ends_ev rfl ?_
        simp only [go_sem]
        exact Co.refl _
      · have h4 : ¬ b.size < a.size := by omega
        rw [List.drop_eq_nil_of_le (show b.data.toList.length ≤ a.size from (by show b.size ≤ a.size; omega))] at hc
        simp only [cmpL] at hc
        refine awp_plain 5 (by kernel_rfl) rfl (fun g8 hg8 => ?_)
        simp only [go_sem, hb]
        refine hK22 _ ?_
        refine awp_f rfl ?_
        refine awp_skip ?_
        refine hK21 _ ?_
        refine awp_seq_k (fun K24 hK24 => ?_)
        refine awp_seq_k (fun K25 hK25 => ?_)
        refine awp_plain 5 (by kernel_rfl) rfl (fun g10 hg10 => ?_)
        simp only [go_sem, h4]
        refine hK25 _ ?_
        refine awp_f rfl ?_
        refine awp_skip ?_
        refine hK24 _ ?_
        refine awp_seq_k (fun K26 hK26 => ?_)
        refine awp_plain 1 (by kernel_rfl) rfl (fun g12 hg12 => ?_)
        simp only [go_sem]
        refine hK26 _ ?_
        refine awp_ret ?_
        rw [← hc]
        refine ends_ev rfl ?_
        simp only [go_sem]
        exact Co.refl _

end Go.Proofs.T

