/- A part of the proof, under no conditions of its own: Ab7. -/
import Derived.Test.YtomkekilpdkjgaaDoorAb6
/-
  Regions whose operations come in the order of the text.
-/
namespace Go.Ab
open Go Go.RowKit

def set : Sto → Nm → Ob → Sto
  | [], _, _ => []
  | (m, x) :: r, n, o => if m = n then (n, o) :: r else (m, x) :: set r n o

def del : Sto → Nm → Sto
  | [], _ => []
  | (m, x) :: r, n => if m = n then del r n else (m, x) :: del r n

theorem get_set (σ : Sto) (n : Nm) (o : Ob) (h : get σ n ≠ none) (m : Nm) : get (set σ n o) m = if n = m then some o else get σ m := by
  induction σ with
  | nil => exact absurd rfl h
  | cons p r ih =>
    obtain ⟨k, x⟩ := p
    simp only [set]
    by_cases hk : k = n
    · subst hk
      rw [if_pos rfl]
      simp only [get]
      split <;> simp_all
    · rw [if_neg hk]
      simp only [get, if_neg hk] at h
      simp only [get, ih h]
      by_cases hm : k = m
      · subst hm
        rw [if_pos rfl, if_neg (fun e => hk e.symm), if_pos rfl]
      · rw [if_neg hm, if_neg hm]

theorem get_del (σ : Sto) (n m : Nm) : get (del σ n) m = if n = m then none else get σ m := by
  induction σ with
  | nil => simp [get, del]
  | cons p r ih =>
    obtain ⟨k, x⟩ := p
    simp only [del]
    by_cases hk : k = n
    · subst hk
      rw [if_pos rfl, ih]
      simp only [get]
      split <;> simp_all
    · rw [if_neg hk]
      simp only [get, ih]
      by_cases hm : k = m
      · subst hm
        rw [if_pos rfl, if_neg (fun e => hk e.symm), if_pos rfl]
      · rw [if_neg hm, if_neg hm]

def St.put (st : St) (dst : Option Tmp) (v : D) (nw : Sto) : St :=
  match dst with
  | some d => { env := (d, v) :: st.env, σ := nw ++ st.σ }
  | none => { st with σ := nw ++ st.σ }

/-- Is the operation carried out? -/
def wantD (ops : List Oper) (env : List (Nat × D)) (o : Oper) : Option Bool :=
  match o.guard with
  | none => some true
  | some (j, b) => match (ops[j]?).bind (·.dst) with
    | some t => match lk env t with
      | some (.val (.bool c)) => some (c == b)
      | some (.val (.tuple _)) => some false
      | _ => none
    | none => some false

theorem wantD_sound {w0 : World} {G : Gh} {w : World} {a : Act} {st : St} (hr : Rel w0 G w a st) {ops : List Oper} {o : Oper} {b : Bool} (h : wantD ops st.env o = some b) : Region.wanted o (yielded ops.toArray a.tmps) = b := by
  unfold wantD at h
  unfold Region.wanted
  split at h
  · rename_i hg; cases h; simp [hg]
  · rename_i j want hg
    simp only [hg]
    unfold yielded
    simp only [List.getElem?_toArray]
    split at h
    · rename_i t ht
      simp only [ht, Option.bind_some]
      split at h
      · rename_i c hl
        cases h
        obtain ⟨hlt, hv⟩ := hr.env t _ hl
        have := V.of_val hv
        simp only [Array.getD_eq_getD_getElem?, hlt, getElem?_pos, Option.getD_some] at this
        simp only [hlt, getElem?_pos, this]
        cases c <;> cases want <;> rfl
      · rename_i vs hl
        cases h
        obtain ⟨hlt, hv⟩ := hr.env t _ hl
        have := V.of_val hv
        simp only [Array.getD_eq_getD_getElem?, hlt, getElem?_pos, Option.getD_some] at this
        simp only [hlt, getElem?_pos, this]
        cases want <;> rfl
      · cases h
    · rename_i ht
      cases h
      simp only [ht, Option.bind_none]
      cases want <;> rfl

/-- What is left of a region. -/
def AOps (E : Ctx) (N : Nat) (ops : List Oper) (g : Nat) (Q : St → Prop) (rest : List Oper) (st : St) : Prop :=
  ∀ w0, E.A w0 → ∀ G w a, a.tmps.size = N → Rel w0 G w a st → g < G.top → (rest.filterMap (·.dst)).Nodup → (∀ o ∈ rest, ∀ d, o.dst = some d → d < N ∧ ∀ j, G.ρ ⟨g, d, j⟩ = none) →
    ∀ (Q' : Exit → Act → World → Prop), (∀ G' st' a' w', a'.tmps.size = N → Rel w0 G' w' a' st' → Step (fun n => n.g = g) G w (get st.σ) G' w' (get st'.σ) → Q st' → Q' .normal a' w') →
      wpList E.P ops.toArray Q' rest a w

section
variable {E : Ctx} {N : Nat} {ops : List Oper} {g : Nat} {Q : St → Prop} {st : St} {o : Oper} {rest : List Oper}

theorem aops_nil (h : Q st) : AOps E N ops g Q [] st :=
  fun _ _ G w a hN hr _ _ _ _ hQ => hQ G st a w hN hr (.refl _ _ _ _) h

theorem Rel.put {w0 : World} {G G' : Gh} {w w' : World} {a : Act} {nw : Sto} {dst : Option Tmp} {x : Value} {v : D} {R : Nm → Prop} {κ' : Kp} (hr : Rel w0 G w a st) (hs : Step R G w (get st.σ) G' w' κ') (hκ : κ' = get (nw ++ st.σ))
    (hw : WF w0 G' w') (ho : Objs w0 G' w' κ') (hv : V G' w' x v) (hd : ∀ d, dst = some d → d < a.tmps.size) : Rel w0 G' w' (a.put dst x) (st.put dst v nw) := by
  subst hκ
  cases dst with
  | none => exact ⟨hw, fun t d ht => let ⟨h1, h2⟩ := hr.env t d ht; ⟨h1, h2.step hs hr.wf hr.objs⟩, ho, hr.defers⟩
  | some d =>
    refine ⟨hw, fun t d' ht => ?_, ho, hr.defers⟩
    have hlt := hd d rfl
    simp only [St.put, lk] at ht
    simp only [Act.put, Array.size_setIfInBounds, Array.getD_eq_getD_getElem?, Array.getElem?_setIfInBounds]
    split at ht
    · rename_i he
      subst he
      cases ht
      refine ⟨hlt, ?_⟩
      rw [if_pos rfl, if_pos hlt]
      exact hv
    · rename_i he
      obtain ⟨h1, h2⟩ := hr.env t d' ht
      refine ⟨h1, ?_⟩
      rw [if_neg he]
      rw [Array.getD_eq_getD_getElem?] at h2
      exact h2.step hs hr.wf hr.objs

theorem put_size {a : Act} {dst : Option Tmp} {x : Value} : (a.put dst x).tmps.size = a.tmps.size := by
  cases dst <;> simp [Act.put]

theorem Step.fresh {R : Nm → Prop} {G G' : Gh} {w w' : World} {κ κ' : Kp} (hs : Step R G w κ G' w' κ') {n : Nm} (hg : n.g < G.top) (hn : G.ρ n = none) (hR : ¬ R n) : G'.ρ n = none := hs.ρ' n hg hn hR

theorem aops_q {v : D} {nw : Sto} (hw : wantD ops st.env o = some true) (hq : QOp E g o (ev E st.env) (get st.σ) v nw) (h : AOps E N ops g Q rest (st.put o.dst v nw)) : AOps E N ops g Q (o :: rest) st := by
  intro w0 hA G w a hN hr hg hnd hfr Q' hQ
  simp only [wpList]
  rw [if_pos (wantD_sound hr hw)]
  refine .inl (hq w0 hA G w a hr.wf (fun x _ => hr.ev hA x) hr.objs (fun d hd => ⟨hg, (hfr o (by simp) d hd).2⟩) _ _ fun G' w' x hw' hv ho hs => ?_)
  have hκ : Kp.or (get nw) (get st.σ) = get (nw ++ st.σ) := (get_append _ _).symm
  have hr' := hr.put hs hκ hw' ho hv (fun d hd => by rw [hN]; exact (hfr o List.mem_cons_self d hd).1)
  have hσ : (st.put o.dst v nw).σ = nw ++ st.σ := by cases o.dst <;> rfl
  have hnd' : (rest.filterMap (·.dst)).Nodup ∧ ∀ d, o.dst = some d → d ∉ rest.filterMap (·.dst) := by
    cases hd : o.dst with
    | none => simp only [List.filterMap_cons, hd] at hnd; exact ⟨hnd, fun d h => by cases h⟩
    | some d => simp only [List.filterMap_cons, hd, List.nodup_cons] at hnd; exact ⟨hnd.2, fun d' h => by cases h; exact hnd.1⟩
  refine h w0 hA G' w' _ (by rw [put_size, hN]) hr' (Nat.lt_of_lt_of_le hg hs.top) hnd'.1 (fun o' ho' d hd => ⟨(hfr o' (by simp [ho']) d hd).1, fun j => hs.fresh (by exact hg) ((hfr o' (by simp [ho']) d hd).2 j) fun ⟨_, he⟩ => ?_⟩) Q' fun G2 st2 a2 w2 h1 h2 h3 h4 => hQ G2 st2 a2 w2 h1 h2 ?_ h4
  · exact hnd'.2 d he (List.mem_filterMap.2 ⟨o', ho', hd⟩)
  · rw [hσ, ← hκ] at h3
    exact (hs.weaken fun n _ hn => hn.1).trans h3

theorem aops_skip (hw : wantD ops st.env o = some false) (h : AOps E N ops g Q rest (st.put o.dst (.val undef) [])) : AOps E N ops g Q (o :: rest) st := by
  intro w0 hA G w a hN hr hg hnd hfr Q' hQ
  simp only [wpList]
  rw [wantD_sound hr hw, if_neg (by simp)]
  have hr' := hr.put (nw := []) (x := undef) (v := .val undef) (dst := o.dst) (.refl no G w (get st.σ)) rfl hr.wf hr.objs (.val _) (fun d hd => by rw [hN]; exact (hfr o List.mem_cons_self d hd).1)
  have hσ : (st.put o.dst (.val undef) []).σ = st.σ := by cases o.dst <;> rfl
  have hnd' : (rest.filterMap (·.dst)).Nodup := by
    cases hd : o.dst with
    | none => simpa only [List.filterMap_cons, hd] using hnd
    | some d => simp only [List.filterMap_cons, hd, List.nodup_cons] at hnd; exact hnd.2
  refine h w0 hA G w _ (by rw [put_size, hN]) hr' hg hnd' (fun o' ho' => hfr o' (by simp [ho'])) Q' fun G2 st2 a2 w2 h1 h2 h3 h4 => hQ G2 st2 a2 w2 h1 h2 ?_ h4
  rw [hσ] at h3
  exact h3

/-- An operation that turns objects: 'κs' becomes 'κs''; all else stays. -/
def TOp (E : Ctx) (g : Nat) (o : Oper) (e : Operand → D) (κ : Kp) (v : D) (κ' : Kp) : Prop :=
  ∀ w0, E.A w0 → ∀ G w (a : Act), WF w0 G w → (∀ x ∈ o.op.operands, V G w (a.eval x) (e x)) → Objs w0 G w κ → (∀ d, o.dst = some d → g < G.top ∧ ∀ j, G.ρ ⟨g, d, j⟩ = none) →
    ∀ (K : Act → World → Prop) (Q' : Exit → Act → World → Prop),
      (∀ G' w' x, WF w0 G' w' → V G' w' x v → Objs w0 G' w' κ' → Step (rsv g o.dst) G w κ G' w' κ' → K (a.put o.dst x) w') → o.wp E.P a w K Q'

def St.env' (st : St) (dst : Option Tmp) (v : D) (σ : Sto) : St :=
  match dst with
  | some d => { env := (d, v) :: st.env, σ := σ }
  | none => { env := st.env, σ := σ }

theorem Rel.put' {w0 : World} {G G' : Gh} {w w' : World} {a : Act} {σ : Sto} {dst : Option Tmp} {x : Value} {v : D} {R : Nm → Prop} {κ' : Kp} (hr : Rel w0 G w a st) (hs : Step R G w (get st.σ) G' w' κ') (hκ : κ' = get σ)
    (hw : WF w0 G' w') (ho : Objs w0 G' w' κ') (hv : V G' w' x v) (hd : ∀ d, dst = some d → d < a.tmps.size) : Rel w0 G' w' (a.put dst x) (st.env' dst v σ) := by
  subst hκ
  cases dst with
  | none => exact ⟨hw, fun t d ht => let ⟨h1, h2⟩ := hr.env t d ht; ⟨h1, h2.step hs hr.wf hr.objs⟩, ho, hr.defers⟩
  | some d =>
    refine ⟨hw, fun t d' ht => ?_, ho, hr.defers⟩
    have hlt := hd d rfl
    simp only [St.env', lk] at ht
    simp only [Act.put, Array.size_setIfInBounds, Array.getD_eq_getD_getElem?, Array.getElem?_setIfInBounds]
    split at ht
    · rename_i he
      subst he
      cases ht
      refine ⟨hlt, ?_⟩
      rw [if_pos rfl, if_pos hlt]
      exact hv
    · rename_i he
      obtain ⟨h1, h2⟩ := hr.env t d' ht
      refine ⟨h1, ?_⟩
      rw [if_neg he]
      rw [Array.getD_eq_getD_getElem?] at h2
      exact h2.step hs hr.wf hr.objs

theorem aops_t {v : D} {σ : Sto} (hw : wantD ops st.env o = some true) (hq : TOp E g o (ev E st.env) (get st.σ) v (get σ)) (h : AOps E N ops g Q rest (st.env' o.dst v σ)) : AOps E N ops g Q (o :: rest) st := by
  intro w0 hA G w a hN hr hg hnd hfr Q' hQ
  simp only [wpList]
  rw [if_pos (wantD_sound hr hw)]
  refine .inl (hq w0 hA G w a hr.wf (fun x _ => hr.ev hA x) hr.objs (fun d hd => ⟨hg, (hfr o (by simp) d hd).2⟩) _ _ fun G' w' x hw' hv ho hs => ?_)
  have hr' := hr.put' (v := v) (dst := o.dst) hs rfl hw' ho hv (fun d hd => by rw [hN]; exact (hfr o List.mem_cons_self d hd).1)
  have hσ : (st.env' o.dst v σ).σ = σ := by cases o.dst <;> rfl
  have hnd' : (rest.filterMap (·.dst)).Nodup ∧ ∀ d, o.dst = some d → d ∉ rest.filterMap (·.dst) := by
    cases hd : o.dst with
    | none => simp only [List.filterMap_cons, hd] at hnd; exact ⟨hnd, fun d h => by cases h⟩
    | some d => simp only [List.filterMap_cons, hd, List.nodup_cons] at hnd; exact ⟨hnd.2, fun d' h => by cases h; exact hnd.1⟩
  refine h w0 hA G' w' _ (by rw [put_size, hN]) hr' (Nat.lt_of_lt_of_le hg hs.top) hnd'.1 (fun o' ho' d hd => ⟨(hfr o' (by simp [ho']) d hd).1, fun j => hs.fresh (by exact hg) ((hfr o' (by simp [ho']) d hd).2 j) fun ⟨_, he⟩ => ?_⟩) Q' fun G2 st2 a2 w2 h1 h2 h3 h4 => hQ G2 st2 a2 w2 h1 h2 ?_ h4
  · exact hnd'.2 d he (List.mem_filterMap.2 ⟨o', ho', hd⟩)
  · rw [hσ] at h3
    exact (hs.weaken fun n _ hn => hn.1).trans h3

end
end Go.Ab
