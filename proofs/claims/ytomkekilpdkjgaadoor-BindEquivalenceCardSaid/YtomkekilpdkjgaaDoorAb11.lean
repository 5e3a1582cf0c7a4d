/- A part of the proof, under no conditions of its own: Ab11. -/
import Derived.Test.YtomkekilpdkjgaaDoorAb10
/-
  Whole regions; evaluation.
-/
namespace Go.Ab
open Go Go.RowKit

def nodupB : List Nat → Bool
  | [] => true
  | a :: l => !l.elem a && nodupB l

theorem nodupB_spec : ∀ l, nodupB l = true → l.Nodup
  | [], _ => .nil
  | a :: l, h => by
    simp only [nodupB, Bool.and_eq_true, Bool.not_eq_true', List.elem_eq_contains] at h
    exact List.nodup_cons.2 ⟨fun hm => by simp [hm] at h, nodupB_spec l h.2⟩

def dstsOk (N : Nat) (l : List Oper) : Bool := nodupB (l.filterMap (·.dst)) && (l.filterMap (·.dst)).all fun d => decide (d < N)

theorem dstsOk_spec {N : Nat} {l : List Oper} (h : dstsOk N l = true) : (l.filterMap (·.dst)).Nodup ∧ ∀ o ∈ l, ∀ d, o.dst = some d → d < N := by
  simp only [dstsOk, Bool.and_eq_true, List.all_eq_true, decide_eq_true_eq] at h
  exact ⟨nodupB_spec _ h.1, fun o ho d hd => h.2 d (List.mem_filterMap.2 ⟨o, ho, hd⟩)⟩

/-- One generation of names more. -/
theorem bump {w0 : World} {G : Gh} {w : World} {a : Act} {st : St} (hr : Rel w0 G w a st) :
    ∃ G1 : Gh, G1.top = G.top + 1 ∧ (∀ i j, G1.ρ ⟨G.top, i, j⟩ = none) ∧ (∀ i j, get st.σ ⟨G.top, i, j⟩ = none) ∧ Rel w0 G1 w a st ∧ Step no G w (get st.σ) G1 w (get st.σ) := by
  have hV : ∀ v d, V G w v d → V { G with top := G.top + 1 } w v d := fun v d h => h.mono (fun _ h => h) (fun _ _ => rfl) (fun _ _ h => h)
  have hfr : ∀ i j, G.ρ ⟨G.top, i, j⟩ = none := fun i j => by
    cases h : G.ρ ⟨G.top, i, j⟩ with
    | none => rfl
    | some v => exact absurd (hr.wf.nm _ v h).1 (Nat.lt_irrefl _)
  refine ⟨{ G with top := G.top + 1 }, rfl, hfr, fun i j => ?_, ⟨⟨hr.wf.below, hr.wf.old, hr.wf.lt, fun n v hn => ⟨Nat.lt_succ_of_lt (hr.wf.nm n v hn).1, (hr.wf.nm n v hn).2⟩⟩, fun t d ht => ⟨(hr.env t d ht).1, hV _ _ (hr.env t d ht).2⟩, ⟨fun n o hn => ?_, hr.objs.ne⟩, hr.defers⟩, ?_⟩
  · cases h : get st.σ ⟨G.top, i, j⟩ with
    | none => rfl
    | some o =>
      obtain ⟨v, hv, _⟩ := hr.objs.ob _ o h
      rw [hfr i j] at hv; cases hv
  · obtain ⟨v, hv, hov, hF⟩ := hr.objs.ob n o hn
    exact ⟨v, hv, hov.mono hV fun _ _ => rfl, hF⟩
  · exact ⟨Nat.le_refl _, fun _ _ _ => rfl, fun _ h => h, fun _ h => .inl h, fun _ _ h => h, fun _ _ h _ => h, Nat.le_succ _, fun _ h => .inr h, fun _ h => .inl h⟩

section
variable {E : Ctx} {N : Nat} {st : St}

theorem awp_region {Q : Exit → St → Prop} {id : Nat} {l : List Oper} (hd : dstsOk N l = true) (h : ∀ g, (∀ i j, get st.σ ⟨g, i, j⟩ = none) → AOps E N l g (fun s => Q .normal s) l st) : AWp E N (.region id l.toArray false) Q st := by
  intro w0 hA G w a hN hr
  obtain ⟨G1, ht, hf, hσ, hr1, hs1⟩ := bump hr
  obtain ⟨hnd, hlt⟩ := dstsOk_spec hd
  refine wp_region_lit (h G.top hσ w0 hA G1 w a hN hr1 (by omega) hnd (fun o ho d hd => ⟨hlt o ho d hd, fun j => hf d j⟩) _ fun G' st' a' w' h1 h2 h3 h4 => ⟨G', st', h1, h2, ?_, h4⟩)
  exact ((hs1.weaken fun _ _ h => h.elim).trans h3).weaken fun n hn he => by omega

/-! ### Evaluation -/

def wantL (ds : List (Option Tmp)) (env : List (Nat × D)) : Option (Nat × Bool) → Option Bool
  | none => some true
  | some (j, b) => match ds[j]? with
    | some (some t) => match lk env t with
      | some (.val (.bool c)) => some (c == b)
      | some (.val (.tuple _)) => some false
      | _ => none
    | _ => some false

theorem wantL_eq {ops : List Oper} {ds : List (Option Tmp)} (h : ops.map (·.dst) = ds) (env : List (Nat × D)) (o : Oper) : wantL ds env o.guard = wantD ops env o := by
  subst h
  unfold wantL wantD
  cases o.guard with
  | none => rfl
  | some p =>
    obtain ⟨j, b⟩ := p
    simp only [List.getElem?_map]
    cases ops[j]? with
    | none => rfl
    | some x =>
      simp only [Option.map_some, Option.bind_some]
      cases x.dst <;> rfl

def storeD (P : Program) (t : TypeId) (ad v : D) (σ : Sto) : Option Sto :=
  match ad with
  | .ptr n off => match get σ n with
    | some (.box u cs) => if szOf P t = some v.cells.length ∧ off + v.cells.length ≤ cs.length ∧ v.cells.all D.one = true then some (set σ n (.box u (over cs off v.cells))) else none
    | _ => none
  | .aptr n k i j => match get σ n with
    | some (.arr u k' rows) => if k' = k then match rows[i]? with
        | some (.agg rc) => if szOf P t = some v.cells.length ∧ j + v.cells.length ≤ rc.length ∧ v.cells.all D.one = true then some (set σ n (.arr u k (rows.set i (.agg (over rc j v.cells))))) else none
        | _ => none
      else none
    | _ => none
  | _ => none

theorem storeD_sound {g : Nat} {o : Oper} {e : Operand → D} {σ σ' : Sto} {t : TypeId} {ao x : Operand} (hop : o.op = .store t ao x) (h : storeD E.P t (e ao) (e x) σ = some σ') : TOp E g o e (get σ) (.val undef) (get σ') := by
  unfold storeD at h
  split at h
  · rename_i n off ha
    split at h
    · rename_i u cs hk
      split at h
      · rename_i hc
        cases h
        rw [get_set' _ _ _ (by rw [hk]; simp)]
        exact top_store hop ha hk rfl hc.1 hc.2.1 hc.2.2
      · cases h
    · cases h
  · rename_i n k i j ha
    split at h
    · rename_i u k' rows hk
      split at h
      · rename_i hkk
        subst hkk
        split at h
        · rename_i rc hr
          split at h
          · rename_i hc
            cases h
            rw [get_set' _ _ _ (by rw [hk]; simp)]
            exact top_store_arr hop ha hk hr rfl hc.1 hc.2.1 hc.2.2 rfl (.inr ⟨_, rfl⟩)
          · cases h
        · cases h
      · cases h
    · cases h
  · cases h

def stepD (E : Ctx) (ds : List (Option Tmp)) (g : Nat) (o : Oper) (st : St) : Option St :=
  match wantL ds st.env o.guard with
  | some true => match o.op with
    | .store t a x => (storeD E.P t (ev E st.env a) (ev E st.env x) st.σ).map (st.env' o.dst (.val undef))
    | _ => (dop E.P g o (ev E st.env) (get st.σ)).map fun p => st.put o.dst p.1 p.2
  | some false => some (st.put o.dst (.val undef) [])
  | none => none

def arun (E : Ctx) (ds : List (Option Tmp)) (g : Nat) : Nat → List Oper → St → Option (List Oper × St)
  | 0, l, st => some (l, st)
  | _ + 1, [], st => some ([], st)
  | n + 1, o :: r, st => match stepD E ds g o st with
    | some st' => arun E ds g n r st'
    | none => none

variable {ops l l' : List Oper} {ds : List (Option Tmp)} {g : Nat} {Q : St → Prop} {st' : St}

theorem aops_step {o : Oper} {r : List Oper} (hds : ops.map (·.dst) = ds) (h : stepD E ds g o st = some st') (k : AOps E N ops g Q r st') : AOps E N ops g Q (o :: r) st := by
  unfold stepD at h
  rw [wantL_eq hds] at h
  split at h
  · rename_i hw
    split at h
    · rename_i t a x hop
      simp only [Option.map_eq_some_iff] at h
      obtain ⟨σ', hσ, rfl⟩ := h
      exact aops_t hw (storeD_sound hop hσ) k
    · simp only [Option.map_eq_some_iff] at h
      obtain ⟨p, hp, rfl⟩ := h
      exact aops_q hw (dop_sound hp) k
  · rename_i hw
    cases h
    exact aops_skip hw k
  · cases h

theorem aops_run (n : Nat) (hds : ops.map (·.dst) = ds) : ∀ {l : List Oper} {st : St}, arun E ds g n l st = some (l', st') → AOps E N ops g Q l' st' → AOps E N ops g Q l st := by
  induction n with
  | zero =>
    intro l st h k
    simp only [arun, Option.some.injEq, Prod.mk.injEq] at h
    obtain ⟨rfl, rfl⟩ := h
    exact k
  | succ n ih =>
    intro l st h k
    cases l with
    | nil =>
      simp only [arun, Option.some.injEq, Prod.mk.injEq] at h
      obtain ⟨rfl, rfl⟩ := h
      exact k
    | cons o r =>
      simp only [arun] at h
      split at h
      · rename_i s hs
        exact aops_step hds hs (ih h k)
      · cases h

/-- A call that turns objects. -/
theorem aops_call {o : Oper} {r : List Oper} {f : FuncId} {args args' : List D} {σs σ' : Sto} {d : Nat} {x : D} (hds : ops.map (·.dst) = ds) (hw : wantL ds st.env o.guard = some true) (hd : o.dst = some d) (hc : calleeD o (ev E st.env) = some (f, args)) (h : ACalls E f args' σs g d x σ') (hco : CoL args args')
    (hsub : ∀ p ∈ σs, get st.σ p.1 = some p.2) (k : AOps E N ops g Q r { env := (d, x) :: st.env, σ := σ' ++ dels st.σ (σs.map (·.1)) }) : AOps E N ops g Q (o :: r) st := by
  refine aops_t (by rw [← wantL_eq hds]; exact hw) (top_call hc hco hd h hsub) ?_
  simp only [hd, St.env']
  exact k

/-- A call that is handed no objects. -/
theorem aops_pure {o : Oper} {r : List Oper} {f : FuncId} {args args' : List D} {nw : Sto} {d : Nat} {x : D} (hds : ops.map (·.dst) = ds) (hw : wantL ds st.env o.guard = some true) (hd : o.dst = some d) (hc : calleeD o (ev E st.env) = some (f, args)) (h : ACalls E f args' [] g d x nw) (hco : CoL args args')
    (k : AOps E N ops g Q r { env := (d, x) :: st.env, σ := nw ++ st.σ }) : AOps E N ops g Q (o :: r) st :=
  aops_call hds hw hd hc h hco (fun p hp => by cases hp) k

/-- append. -/
theorem aops_append {o : Oper} {r : List Oper} {t el : TypeId} {so x : Operand} {d : Nat} (hds : ops.map (·.dst) = ds) (hw : wantL ds st.env o.guard = some true) (hop : o.op = .call { callee := .builtin .append, args := #[so, x], argTypes := #[t, t] }) (hd : o.dst = some d)
    {n : Nm} {len : Nat} (hs : ev E st.env so = .own n len) {k : Nat} {rows rows2 : List D} (hκ : get st.σ n = some (.arr el k rows)) {xf : Bool} (hx : ev E st.env x = .sl xf rows2)
    (he : elemS E.P t = some el) (hk : szOf E.P el = some k) {bs : Nat} (hbs : bytesOf E.P el = some bs) {z : Value} (hz : zeroOf E.P el = some z) (hzs : z.cells.size = k) (hk0 : 0 < k) (hok : okRows k rows2)
    (h63 : rows.length + rows2.length ≤ 9223372036854775807) (hb : (rows.length + rows2.length) * bs ≤ 140737488355328)
    (kk : AOps E N ops g Q r { env := (d, .own ⟨g, d, 0⟩ (rows.length + rows2.length)) :: st.env, σ := (⟨g, d, 0⟩, .arr el k (rows ++ rows2)) :: del st.σ n }) : AOps E N ops g Q (o :: r) st := by
  have := top_append (E := E) (g := g) (e := ev E st.env) (κ := get st.σ) hop hd hs hκ hx he hk hbs hz hzs hk0 hok h63 hb
  have he2 : (Kp.del (get st.σ) n).put ⟨g, d, 0⟩ (.arr el k (rows ++ rows2)) = get ((⟨g, d, 0⟩, .arr el k (rows ++ rows2)) :: del st.σ n) := by
    funext m
    simp only [Kp.put, Kp.del, get, get_del]
  rw [he2] at this
  refine aops_t (by rw [← wantL_eq hds]; exact hw) this ?_
  simp only [hd, St.env']
  exact kk

end
end Go.Ab
