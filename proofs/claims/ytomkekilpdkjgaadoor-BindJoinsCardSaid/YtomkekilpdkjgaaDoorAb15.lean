/- A part of the proof, under no conditions of its own: Ab15. -/
import Derived.Test.YtomkekilpdkjgaaDoorAb14
/-
  Evaluation of the first part of a region that draws; other views of a state; ends with new objects.
-/
namespace Go.Ab
open Go Go.RowKit

section
variable {E : Ctx} {N : Nat} {ops l l' : List Oper} {ds : List (Option Tmp)} {g : Nat} {σ0 : Sto} {st st' : St} {K : St → Prop}

def nwOk (g : Nat) (dst : Option Tmp) (nw : Sto) : Bool := nw.all fun p => p.1.g == g && decide (dst = some p.1.i)

theorem nwOk_spec {dst : Option Tmp} {nw : Sto} (h : nwOk g dst nw = true) : ∀ p ∈ nw, p.1.g = g ∧ dst = some p.1.i := by
  simp only [nwOk, List.all_eq_true, Bool.and_eq_true, beq_iff_eq, decide_eq_true_eq] at h
  exact h

def stepQ (E : Ctx) (ds : List (Option Tmp)) (g : Nat) (σ0 : Sto) (o : Oper) (st : St) : Option St :=
  match wantL ds st.env o.guard with
  | some true => (dop E.P g o (ev E st.env) (get σ0)).map fun p => { env := putE st.env o.dst p.1, σ := p.2 ++ st.σ }
  | some false => some { env := putE st.env o.dst (.val undef), σ := st.σ }
  | none => none

def qrun (E : Ctx) (ds : List (Option Tmp)) (g : Nat) (σ0 : Sto) : Nat → List Oper → St → Option (List Oper × St)
  | 0, l, st => some (l, st)
  | _ + 1, [], st => some ([], st)
  | n + 1, o :: r, st => match stepQ E ds g σ0 o st with
    | some st' => qrun E ds g σ0 n r st'
    | none => none

theorem dop_names {P : Program} {o : Oper} {e : Operand → D} {κ : Kp} {v : D} {nw : Sto} (h : dop P g o e κ = some (v, nw)) : ∀ p ∈ nw, p.1.g = g ∧ o.dst = some p.1.i := by
  unfold dop at h
  split at h
  · split at h
    · rename_i hd _; cases h; intro p hp; simp only [List.mem_singleton] at hp; subst hp; exact ⟨rfl, hd⟩
    · cases h
  · split at h
    · rename_i hd
      split at h
      · cases h; intro p hp; simp only [List.mem_singleton] at hp; subst hp; exact ⟨rfl, hd⟩
      · cases h
    · cases h
  · simp only [Option.map_eq_some_iff, Prod.mk.injEq] at h
    obtain ⟨_, _, _, h⟩ := h
    subst h
    intro p hp; cases hp
  · simp only [Option.map_eq_some_iff, Prod.mk.injEq] at h
    obtain ⟨_, _, _, h⟩ := h
    subst h
    intro p hp; cases hp

theorem qrun_step {o : Oper} {r : List Oper} (hds : ops.map (·.dst) = ds) (h : stepQ E ds g σ0 o st = some st') (k : QRun E ops g σ0 K r st') : QRun E ops g σ0 K (o :: r) st := by
  unfold stepQ at h
  rw [wantL_eq hds] at h
  split at h
  · rename_i hw
    simp only [Option.map_eq_some_iff] at h
    obtain ⟨⟨v, nw⟩, hp, rfl⟩ := h
    exact qrun_cons (.inl ⟨hw, dop_sound hp, dop_names hp⟩) k
  · rename_i hw
    cases h
    exact qrun_cons (nw := []) (.inr ⟨hw, rfl, rfl⟩) k
  · cases h

theorem qrun_run (n : Nat) (hds : ops.map (·.dst) = ds) : ∀ {l : List Oper} {st : St}, qrun E ds g σ0 n l st = some (l', st') → QRun E ops g σ0 K l' st' → QRun E ops g σ0 K l st := by
  induction n with
  | zero =>
    intro l st h k
    simp only [qrun, Option.some.injEq, Prod.mk.injEq] at h
    obtain ⟨rfl, rfl⟩ := h
    exact k
  | succ n ih =>
    intro l st h k
    cases l with
    | nil =>
      simp only [qrun, Option.some.injEq, Prod.mk.injEq] at h
      obtain ⟨rfl, rfl⟩ := h
      exact k
    | cons o r =>
      simp only [qrun] at h
      split at h
      · rename_i s hs
        exact qrun_step hds hs (ih h k)
      · cases h

/-- A call that is handed the objects 'σs' and leaves them as they were. -/
theorem qrun_call {o : Oper} {r : List Oper} {f : FuncId} {args args' : List D} {σs nw : Sto} {d : Nat} {x : D} (hds : ops.map (·.dst) = ds) (hw : wantL ds st.env o.guard = some true) (hd : o.dst = some d) (hc : calleeD o (ev E st.env) = some (f, args)) (h : ACalls E f args' σs g d x (nw ++ σs)) (hco : CoL args args')
    (hsub : ∀ p ∈ σs, get σ0 p.1 = some p.2) (hnw : nwOk g (some d) nw = true) (k : QRun E ops g σ0 K r { env := (d, x) :: st.env, σ := nw ++ st.σ }) : QRun E ops g σ0 K (o :: r) st := by
  refine qrun_cons (v := x) (nw := nw) (.inl ⟨by rw [← wantL_eq hds]; exact hw, Ab.qop_call hc hco hd h hsub, by rw [hd]; exact nwOk_spec hnw⟩) ?_
  rw [hd]
  exact k

theorem qrun_pure {o : Oper} {r : List Oper} {f : FuncId} {args args' : List D} {nw : Sto} {d : Nat} {x : D} (hds : ops.map (·.dst) = ds) (hw : wantL ds st.env o.guard = some true) (hd : o.dst = some d) (hc : calleeD o (ev E st.env) = some (f, args)) (h : ACalls E f args' [] g d x nw) (hco : CoL args args')
    (hnw : nwOk g (some d) nw = true) (k : QRun E ops g σ0 K r { env := (d, x) :: st.env, σ := nw ++ st.σ }) : QRun E ops g σ0 K (o :: r) st :=
  qrun_call (σs := []) hds hw hd hc (by simpa using h) hco (fun p hp => by cases hp) hnw k

end

/-! ### Other views -/

/-- A map over the parts of a value, one level deep. -/
def D.sub (f : D → D) : D → D
  | .agg cs => .agg (cs.map f)
  | .tup cs => .tup (cs.map f)
  | .func fn a c => .func fn (a.map f) (c.map f)
  | d => f d

theorem V.sub {G G' : Gh} {w w' : World} {f : D → D} (hf : ∀ v d, V G w v d → V G' w' v (f d)) {v : Value} {d : D} (h : V G w v d) : V G' w' v (d.sub f) := by
  have lists : ∀ {cs : Array Value} {ds : List D}, (∀ (i : Nat) c d, cs[i]? = some c → ds[i]? = some d → V G w c d) → ∀ (i : Nat) c d, cs[i]? = some c → (ds.map f)[i]? = some d → V G' w' c d := by
    intro cs ds h i c d hc hd
    simp only [List.getElem?_map, Option.map_eq_some_iff] at hd
    obtain ⟨d0, h0, rfl⟩ := hd
    exact hf _ _ (h i c d0 hc h0)
  cases h with
  | agg h1 h2 => exact .agg (by simpa using h1) (lists h2)
  | tup h1 h2 => exact .tup (by simpa using h1) (lists h2)
  | func h1 h2 h3 h4 => exact .func (by simpa using h1) (by simpa using h2) (lists h3) (lists h4)
  | any v => exact hf _ _ (.any v)
  | val v => exact hf _ _ (.val v)
  | nilsl x => exact hf _ _ (.nilsl x)
  | esl a x => exact hf _ _ (.esl a x)
  | sl X h1 h2 h3 h4 h5 h6 h7 => exact hf _ _ (.sl X h1 h2 h3 h4 h5 h6 h7)
  | own h => exact hf _ _ (.own h)
  | ptr h => exact hf _ _ (.ptr h)
  | aptr h => exact hf _ _ (.aptr h)
  | eptr X h1 h2 h3 => exact hf _ _ (.eptr X h1 h2 h3)
  | mref h => exact hf _ _ (.mref h)
  | iface h => exact hf _ _ (.iface h)

def Ob.sub (f : D → D) : Ob → Ob
  | .box t cs => .box t (cs.map f)
  | o => o

def mapEnv (f : D → D) : List (Nat × D) → List (Nat × D)
  | [] => []
  | (t, d) :: r => (t, d.sub f) :: mapEnv f r

def mapSto (f : D → D) : Sto → Sto
  | [] => []
  | (n, o) :: r => (n, o.sub f) :: mapSto f r

theorem lk_mapEnv (f : D → D) : ∀ (l : List (Nat × D)) (t : Nat), lk (mapEnv f l) t = (lk l t).map (D.sub f)
  | [], _ => rfl
  | (k, d) :: r, t => by
    simp only [mapEnv, lk]
    split
    · rfl
    · exact lk_mapEnv f r t

theorem get_mapSto (f : D → D) : ∀ (σ : Sto) (n : Nm), get (mapSto f σ) n = (get σ n).map (Ob.sub f)
  | [], _ => rfl
  | (m, o) :: r, n => by
    simp only [mapSto, get]
    split
    · rfl
    · exact get_mapSto f r n

section
variable {E : Ctx} {st : St}

/-- An object goes still: nothing of it is written any more. 'f': how what pointed to it reads from now on. -/
theorem sees_still {K : St → Prop} {n : Nm} {ob : Ob} (hn : get st.σ n = some ob) (f : D → D)
    (hf : ∀ w0 G w v, WF w0 G w → G.ρ n = some v → OV w0 G w v ob → ∀ G', (∀ b, G.F b → G'.F b) → (∀ b, blk v = some b → G'.F b) → G'.ρ = G.ρ → ∀ x d, V G w x d → V G' w x (f d))
    (h : K { env := mapEnv f st.env, σ := mapSto f (del st.σ n) }) : Sees E st K := by
  intro w0 _ G w a hr
  obtain ⟨v, hv, hov, hnF⟩ := hr.objs.ob n ob hn
  let G' : Gh := { G with F := fun b => G.F b ∨ blk v = some b }
  have hV := hf w0 G w v hr.wf hv hov G' (fun b h => .inl h) (fun b h => .inr h) rfl
  have hV0 : ∀ x d, V G w x d → V G' w x d := fun x d h => h.mono (fun b h => .inl h) (fun _ _ => rfl) (fun _ _ h => h)
  have hlt := hov.lt
  have hget : ∀ m o, get (mapSto f (del st.σ n)) m = some o → n ≠ m ∧ ∃ o0, get st.σ m = some o0 ∧ o = o0.sub f := by
    intro m o hm
    rw [get_mapSto, get_del] at hm
    split at hm
    · simp at hm
    · rename_i hne
      simp only [Option.map_eq_some_iff] at hm
      obtain ⟨o0, h0, rfl⟩ := hm
      exact ⟨hne, o0, h0, rfl⟩
  have hbox : ∀ m o b, get st.σ m = some o → n ≠ m → ∀ u, G.ρ m = some u → blk u = some b → blk v ≠ some b := fun m o b hm hne u hu hb => fun hvb => hr.objs.ne n m ob o v u b hn hm hne hv hu hvb hb
  refine ⟨G', _, ⟨⟨hr.wf.below, fun b hb => .inl (hr.wf.old b hb), fun b hb => ?_, hr.wf.nm⟩, fun t d ht => ?_, ⟨fun m o hm => ?_, fun m m' o o' u u' b h1 h2 => ?_⟩, hr.defers⟩, ⟨Nat.le_refl _, fun _ _ _ => rfl, fun b h => .inl h, fun b hb => ?_, fun _ _ h => h, fun _ _ h _ => h, Nat.le_refl _, fun b ⟨m, o, u, h1, h2, h3⟩ => ?_, fun m hm => ?_⟩, h⟩
  · rcases hb with h | h
    · exact hr.wf.lt b h
    · exact hlt b h
  · rw [lk_mapEnv] at ht
    simp only [Option.map_eq_some_iff] at ht
    obtain ⟨d0, h0, rfl⟩ := ht
    exact ⟨(hr.env t d0 h0).1, (hr.env t d0 h0).2.sub hV⟩
  · obtain ⟨hne, o0, h0, rfl⟩ := hget m o hm
    obtain ⟨u, hu, hou, huF⟩ := hr.objs.ob m o0 h0
    refine ⟨u, hu, ?_, fun b hb hF => ?_⟩
    · cases o0 with
      | box t cs =>
        obtain ⟨b, c, rfl, h1, h2, h3⟩ := hou
        refine ⟨b, c, rfl, h1, by simpa using h2, fun i x d hx hd => ?_⟩
        simp only [List.getElem?_map, Option.map_eq_some_iff] at hd
        obtain ⟨d0, hd0, rfl⟩ := hd
        exact hV _ _ (h3 i x d0 hx hd0)
      | arr t k rows => exact hou.mono hV0 fun _ _ => rfl
    · rcases hF with hF | hF
      · exact huF b hb hF
      · exact hbox m o0 b h0 hne u hu hb hF
  · obtain ⟨_, o1, h3, _⟩ := hget m o h1
    obtain ⟨_, o2, h4, _⟩ := hget m' o' h2
    exact hr.objs.ne m m' o1 o2 u u' b h3 h4
  · rcases hb with h | h
    · exact .inl h
    · exact .inr (.inr ⟨n, ob, v, hn, hv, h⟩)
  · cases hx : get (mapSto f (del st.σ n)) m with
    | none => exact absurd hx hm
    | some o =>
      obtain ⟨_, o0, h0, _⟩ := hget m o hx
      exact .inl (by rw [h0]; simp)
  · obtain ⟨_, o0, h0, _⟩ := hget m o h1
    exact .inr ⟨m, o0, u, h0, h2, h3⟩

def frzD (n : Nm) (rows : List D) : D → D
  | .own m l => if m = n then .sl false rows else .own m l
  | d => d

/-- An array goes still. -/
theorem sees_freeze {K : St → Prop} (n : Nm) {t : TypeId} {k : Nat} {rows : List D} (hn : get st.σ n = some (.arr t k rows))
    (h : K { env := mapEnv (frzD n rows) st.env, σ := mapSto (frzD n rows) (del st.σ n) }) : Sees E st K := by
  refine sees_still hn (frzD n rows) (fun w0 G w v hw hv hov G' h1 h2 h3 x d hx => ?_) h
  have keep : V G' w x d := hx.mono h1 (fun _ _ => rfl) (fun m u hm => by rw [h3]; exact hm)
  cases hx with
  | own hρ =>
    rename_i m a len cap
    simp only [frzD]
    split
    · rename_i he
      subst he
      rw [hρ] at hv
      cases hv
      obtain ⟨xs, hown, hfl⟩ := hov
      rcases hown.2 with ⟨hc, hz⟩ | ⟨b, cap', cur, hc, _, hh, hnc, _, hcs, htake⟩
      · cases hc
        have : rows = [] := List.eq_nil_of_length_eq_zero hz
        subst this
        exact .nilsl _
      · cases hc
        have hcell : ∀ (q : Nat) y, xs[q]? = some y → w.cell? ⟨b, q, none⟩ = some y := fun q y hq => by
          rw [cell_of_row w b q cur t (0, 0) hh]
          rw [← htake, List.getElem?_take] at hq
          split at hq
          · simpa using hq
          · cases hq
        refine .sl (k := k) (fun i j => (xs[i * k + j]?).getD undef) rfl (fun h => by cases h) hnc (h2 b rfl) (fun i r hr => (hfl i r hr).1) (fun i r j d hr hd => ?_) (fun i r j d hr hd => ?_)
        · obtain ⟨y, hy, _⟩ := (hfl i r hr).2 j d hd
          rw [Nat.zero_add, hcell _ _ hy, hy]
          rfl
        · obtain ⟨y, hy, hyv⟩ := (hfl i r hr).2 j d hd
          rw [hy]
          exact hyv.mono h1 (fun _ _ => rfl) (fun m u hm => by rw [h3]; exact hm)
    · exact keep
  | _ => exact keep

def boxD (n : Nm) (cs : List D) : D → D
  | .ptr m off => if m = n then .eptr (cs.drop off) else .ptr m off
  | d => d

/-- A variable goes still. -/
theorem sees_box {K : St → Prop} (n : Nm) {t : TypeId} {cs : List D} (hn : get st.σ n = some (.box t cs))
    (h : K { env := mapEnv (boxD n cs) st.env, σ := mapSto (boxD n cs) (del st.σ n) }) : Sees E st K := by
  refine sees_still hn (boxD n cs) (fun w0 G w v hw hv hov G' h1 h2 h3 x d hx => ?_) h
  have keep : V G' w x d := hx.mono h1 (fun _ _ => rfl) (fun m u hm => by rw [h3]; exact hm)
  cases hx with
  | ptr hρ =>
    rename_i m b off
    simp only [boxD]
    split
    · rename_i he
      subst he
      rw [hρ] at hv
      cases hv
      obtain ⟨b', c, hc, hh, hsz, hcs⟩ := hov
      cases hc
      have hlt : ∀ j d, (cs.drop off)[j]? = some d → off + j < c.size ∧ cs[off + j]? = some d := fun j d hd => by
        rw [List.getElem?_drop] at hd
        exact ⟨by have := (List.getElem?_eq_some_iff.1 hd).1; omega, hd⟩
      refine .eptr (fun j => c.getD (off + j) undef) (h2 b rfl) (fun j d hd => ?_) (fun j d hd => ?_)
      · obtain ⟨k1, _⟩ := hlt j d hd
        rw [cell_of_row w b (off + j) c t (0, 0) hh]
        simp [k1]
      · obtain ⟨k1, k2⟩ := hlt j d hd
        have := hcs (off + j) c[off + j] d (by simp [k1]) k2
        simp only [Array.getD_eq_getD_getElem?, k1, getElem?_pos, Option.getD_some]
        exact this.mono h1 (fun _ _ => rfl) (fun m u hm => by rw [h3]; exact hm)
    · exact keep
  | _ => exact keep

/-- nil, seen as an array of the call's own without an element. -/
theorem new_nil {w0 : World} {G : Gh} {w : World} {a : Act} (hr : Rel w0 G w a st) (t : TypeId) {k : Nat} :
    ∃ G' g, (∀ i j, get st.σ ⟨g, i, j⟩ = none) ∧ (G'.ρ ⟨g, 0, 0⟩ = some (.slice none 0 0)) ∧ (∀ v d, V G w v d → V G' w v d) ∧ WF w0 G' w ∧ Objs w0 G' w (Kp.or (single ⟨g, 0, 0⟩ (.arr t k [])) (get st.σ)) ∧ Step no G w (get st.σ) G' w (Kp.or (single ⟨g, 0, 0⟩ (.arr t k [])) (get st.σ)) := by
  obtain ⟨G1, ht, hf, hσ, hr1, hs1⟩ := bump hr
  obtain ⟨g1, g2, g3⟩ := new_obj hr1.wf hr1.objs (hf 0 0) (by rw [ht]; exact Nat.lt_succ_self _) (w' := w) (v := .slice none 0 0) (ob := .arr t k []) ⟨rfl, rfl, rfl, Nat.le_refl _, fun _ _ _ => rfl⟩ (fun b hb => by simp [blk] at hb) ⟨[], World.ownsRow_nil _ _ _ _, fun i r h => by simp at h⟩
  refine ⟨_, G.top, hσ, by simp [Gh.upd], fun v d h => ?_, g1, g2, ?_⟩
  · exact (h.step hs1 hr.wf hr.objs).step g3 hr1.wf hr1.objs
  · have := (hs1.weaken (R' := fun m => m = ⟨G.top, 0, 0⟩) fun _ _ h => h.elim).trans g3
    exact this.weaken fun m hm he => by subst he; exact absurd hm (Nat.lt_irrefl _)

theorem sees_nil {K : St → Prop} (t : Nat) (ty : TypeId) (k : Nat) (ht : lk st.env t = some (.val (.slice none 0 0))) (h : ∀ g, (∀ i j, get st.σ ⟨g, i, j⟩ = none) → K { env := (t, .own ⟨g, 0, 0⟩ 0) :: st.env, σ := (⟨g, 0, 0⟩, .arr ty k []) :: st.σ }) : Sees E st K := by
  intro w0 _ G w a hr
  obtain ⟨G', gn, h1, h2, h3, h4, h5, h6⟩ := new_nil hr ty (k := k)
  have he : Kp.or (single ⟨gn, 0, 0⟩ (.arr ty k [])) (get st.σ) = get ((⟨gn, 0, 0⟩, .arr ty k []) :: st.σ) := by rw [← get_single, ← get_append]; rfl
  rw [he] at h5 h6
  refine ⟨G', _, ⟨h4, fun u d hu => ?_, h5, hr.defers⟩, h6, h gn h1⟩
  simp only [lk] at hu
  split at hu
  · rename_i e
    subst e
    cases hu
    obtain ⟨k1, k2⟩ := hr.env t _ ht
    refine ⟨k1, ?_⟩
    rw [V.of_val k2]
    exact .own h2
  · obtain ⟨k1, k2⟩ := hr.env u d hu
    exact ⟨k1, h3 _ _ k2⟩

theorem sees_nil_box {K : St → Prop} (m : Nm) (i : Nat) (ty : TypeId) (k : Nat) {u : TypeId} {cs : List D} (hm : get st.σ m = some (.box u cs)) (hi : cs[i]? = some (.val (.slice none 0 0)))
    (h : ∀ g, (∀ i j, get st.σ ⟨g, i, j⟩ = none) → K { env := st.env, σ := (⟨g, 0, 0⟩, .arr ty k []) :: set st.σ m (.box u (cs.set i (.own ⟨g, 0, 0⟩ 0))) }) : Sees E st K := by
  intro w0 _ G w a hr
  obtain ⟨G', gn, h1', h2, h3, h4, h5, h6⟩ := new_nil hr ty (k := k)
  generalize hn : (⟨gn, 0, 0⟩ : Nm) = n at h2 h3 h4 h5 h6
  have h1 : get st.σ n = none := by rw [← hn]; exact h1' 0 0
  have hnm : n ≠ m := fun e => by subst e; rw [h1] at hm; cases hm
  have hκ : Kp.or (single n (.arr ty k [])) (get st.σ) m = some (.box u cs) := by
    unfold Kp.or single
    rw [if_neg hnm]
    simpa using hm
  obtain ⟨v, hv, ⟨b, c, rfl, hh, hsz, hcs⟩, _⟩ := h5.ob m _ hκ
  obtain ⟨q1, q2, q3⟩ := change_obj (w' := w) (ob' := .box u (cs.set i (.own n 0))) h4 h5 hκ hv ⟨rfl, rfl, rfl, Nat.le_refl _, fun _ _ _ => rfl⟩ ⟨b, c, rfl, hh, by simpa using hsz, fun j x d hx hd => by
    rw [List.getElem?_set] at hd
    split at hd
    · rename_i hij
      subst hij
      split at hd
      · cases hd
        have := V.of_val (hcs _ _ _ hx hi)
        rw [this]
        exact .own h2
      · cases hd
    · exact hcs j x d hx hd⟩
  have he : (Kp.or (single n (.arr ty k [])) (get st.σ)).put m (.box u (cs.set i (.own n 0))) = get ((n, .arr ty k []) :: set st.σ m (.box u (cs.set i (.own n 0)))) := by
    funext x
    simp only [Kp.put, Kp.or, single, get, get_set st.σ m _ (by rw [hm]; simp)]
    by_cases hx : m = x
    · subst hx
      rw [if_pos rfl, if_neg hnm, if_pos rfl]
    · rw [if_neg hx, if_neg hx]
      split <;> simp
  rw [he] at q2 q3
  refine ⟨G', _, ⟨q1, fun t d ht => ?_, q2, hr.defers⟩, h6.trans (q3.weaken fun _ _ h => h.elim), hn ▸ h gn h1'⟩
  obtain ⟨k1, k2⟩ := hr.env t d ht
  exact ⟨k1, h3 _ _ k2⟩

/-! ### Ends that hand new objects back -/

def look : List (Nm × Nat × Ob) → Nat → Option (Nm × Ob)
  | [], _ => none
  | (n, j, o) :: r, i => if j = i then some (n, o) else look r i

theorem look_mem : ∀ {l : List (Nm × Nat × Ob)} {i : Nat} {n : Nm} {o : Ob}, look l i = some (n, o) → (n, i, o) ∈ l
  | [], _, _, _, h => by simp [look] at h
  | (n', j, o') :: r, i, n, o, h => by
    simp only [look] at h
    split at h
    · rename_i e; subst e; cases h; exact List.mem_cons_self
    · exact List.mem_cons_of_mem _ (look_mem h)

def newSto (g d : Nat) : List (Nm × Nat × Ob) → Sto
  | [] => []
  | (_, j, o) :: r => (⟨g, d, j⟩, o) :: newSto g d r

theorem get_newSto (g d : Nat) : ∀ (l : List (Nm × Nat × Ob)) (m : Nm), get (newSto g d l) m = if m.g = g ∧ m.i = d then (look l m.j).map (·.2) else none
  | [], m => by simp [newSto, get, look]
  | (n, j, o) :: r, m => by
    simp only [newSto, get, look]
    obtain ⟨mg, mi, mj⟩ := m
    by_cases h : mg = g ∧ mi = d
    · obtain ⟨rfl, rfl⟩ := h
      simp only [Nm.mk.injEq, true_and, and_self, if_true]
      split
      · rfl
      · rw [get_newSto mg mi r]
        simp
    · rw [if_neg (fun e => h (by cases e; exact ⟨rfl, rfl⟩)), if_neg h, get_newSto g d r, if_neg h]

def renD (g d : Nat) : List (Nm × Nat × Ob) → D → D
  | [], x => x
  | (n, j, _) :: r, .own m l => if n = m then .own ⟨g, d, j⟩ l else renD g d r (.own m l)
  | _ :: _, x => x

theorem ends_new {fn : Func} {g d : Nat} {r : D} {l : List ResultVar} (hl : fn.results = l.toArray) {ds : List D} (h : resD E.P st l = some ds) (ren : List (Nm × Nat × Ob)) (hren : ∀ e ∈ ren, get st.σ e.1 = some e.2.2 ∧ look ren e.2.1 = some (e.1, e.2.2))
    (hne : ∀ e ∈ ren, ∀ e' ∈ ren, e.2.1 ≠ e'.2.1 → e.1 ≠ e'.1) (hr : Co ((resV ds).sub (·.sub (renD g d ren))) r) : Ends E fn g d r (newSto g d ren) st := by
  intro w0 _ G w a hrel hfr
  obtain ⟨v, h1, h2⟩ := results_run (E := E) hrel hl h
  let G' : Gh := { G with ρ := fun m => if m.g = g ∧ m.i = d then (match look ren m.j with | some p => G.ρ p.1 | none => none) else G.ρ m }
  have hρ : ∀ m u, G.ρ m = some u → G'.ρ m = some u := by
    intro m u hm
    show (if m.g = g ∧ m.i = d then _ else _) = _
    rw [if_neg, hm]
    rintro ⟨rfl, rfl⟩
    rw [hfr.2 m.j] at hm
    cases hm
  have hV0 : ∀ x y, V G w x y → V G' w x y := fun x y h => h.mono (fun _ h => h) (fun _ _ => rfl) hρ
  have hnew : ∀ n j o, look ren j = some (n, o) → G'.ρ ⟨g, d, j⟩ = G.ρ n := fun n j o hlk => by
    show (if g = g ∧ d = d then _ else _) = _
    rw [if_pos ⟨rfl, rfl⟩]
    simp only [hlk]
  have hrD : ∀ (l' : List (Nm × Nat × Ob)), (∀ e ∈ l', e ∈ ren) → ∀ x y, V G w x y → V G' w x (renD g d l' y) := by
    intro l'
    induction l' with
    | nil => intro _ x y hxy; exact hV0 x y hxy
    | cons e l' ih =>
      intro hsub x y hxy
      obtain ⟨n, j, o⟩ := e
      cases y with
      | own m len =>
        simp only [renD]
        split
        · rename_i he
          subst he
          cases hxy with
          | own hρm =>
            have := hren _ (hsub _ List.mem_cons_self)
            exact .own ((hnew n j o this.2).trans hρm)
        · exact ih (fun e he => hsub e (List.mem_cons_of_mem _ he)) x _ hxy
      | _ => exact hV0 _ _ hxy
  have objs : ∀ m o, get (newSto g d ren) m = some o → m.g = g ∧ m.i = d ∧ ∃ n, look ren m.j = some (n, o) ∧ get st.σ n = some o ∧ G'.ρ m = G.ρ n := by
    intro m o hm
    rw [get_newSto] at hm
    split at hm
    · rename_i hc
      obtain ⟨rfl, rfl⟩ := hc
      simp only [Option.map_eq_some_iff] at hm
      obtain ⟨⟨n, o'⟩, hlk, rfl⟩ := hm
      exact ⟨rfl, rfl, n, hlk, (hren _ (look_mem hlk)).1, hnew n m.j o' hlk⟩
    · cases hm
  refine ⟨v, G', h1, ⟨hrel.wf.below, hrel.wf.old, hrel.wf.lt, fun m u hm => ?_⟩, hr G' w v (h2.sub fun x y hxy => hxy.sub (hrD ren fun _ h => h)), ⟨fun m o hm => ?_, fun m m' o o' u u' b k1 k2 hnm k3 k4 k5 k6 => ?_⟩, ?_⟩
  · have hm' : (if m.g = g ∧ m.i = d then (match look ren m.j with | some p => G.ρ p.1 | none => none) else G.ρ m) = some u := hm
    split at hm'
    · rename_i hc
      split at hm'
      · rename_i p hp
        exact ⟨by rw [hc.1]; exact hfr.1, (hrel.wf.nm _ u hm').2⟩
      · cases hm'
    · exact hrel.wf.nm m u hm'
  · obtain ⟨_, _, n, _, hn, hG⟩ := objs m o hm
    obtain ⟨u, hu, hou, hF⟩ := hrel.objs.ob n o hn
    exact ⟨u, hG.trans hu, hou.mono hV0 fun _ _ => rfl, hF⟩
  · obtain ⟨e1, e2, n, q1, q2, q3⟩ := objs m o k1
    obtain ⟨e3, e4, n', q4, q5, q6⟩ := objs m' o' k2
    have hj : m.j ≠ m'.j := fun e => hnm (by obtain ⟨a1, a2, a3⟩ := m; obtain ⟨b1, b2, b3⟩ := m'; simp only at e1 e2 e3 e4 e; subst e1; subst e2; subst e3; subst e4; subst e; rfl)
    exact hrel.objs.ne n n' o o' u u' b q2 q5 (hne _ (look_mem q1) _ (look_mem q4) hj) (q3 ▸ k3) (q6 ▸ k4) k5 k6
  · refine ⟨Nat.le_refl _, fun _ _ _ => rfl, fun _ h => h, fun _ h => .inl h, hρ, fun m _ hm hnr => ?_, Nat.le_refl _, fun b ⟨m, o, u, k1, k2, k3⟩ => ?_, fun m hm => ?_⟩
    · show (if m.g = g ∧ m.i = d then _ else _) = _
      rw [if_neg (fun hc => hnr ⟨hc.1, by rw [hc.2]⟩)]
      exact hm
    · obtain ⟨_, _, n, _, hn, hG⟩ := objs m o k1
      exact .inr ⟨n, o, u, hn, hG.symm.trans k2, k3⟩
    · cases hx : get (newSto g d ren) m with
      | none => exact absurd hx hm
      | some o =>
        obtain ⟨e1, e2, _⟩ := objs m o hx
        obtain ⟨mg, mi, mj⟩ := m
        simp only at e1 e2
        subst e1
        subst e2
        exact .inr (hfr.2 mj)

end
end Go.Ab
