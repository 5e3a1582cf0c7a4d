/- A part of the proof, under no conditions of its own: B16. -/
import Derived.Test.YtkddeobmfhchfaaDoorB15
namespace Go.Proofs.T
open Go Go.Ab Go.RowKit

/-! ## What is returned is small -/

theorem smFm.ok {f : Formal} (h : smFm f) : okFm f := ⟨by have := h.1; omega, smTy.ok _ h.2⟩
theorem smPa.ok {f : Param} (h : smPa f) : okPa f := ⟨by have := h.1; omega, smTy.ok _ h.2⟩
theorem smEx.ok : ∀ e : Ex, smEx e → okEx e := by
  refine Ex.ind fun e ih h => ?_
  obtain ⟨h1, h2, ⟨h3, h4⟩, h5, h6⟩ := (smEx_iff e).1 h
  exact (okEx_iff e).2 ⟨by omega, smTy.ok _ h2, ⟨by omega, fun x hx => smTy.ok _ (h4 x hx)⟩, by omega, fun x hx => ih x hx (h6 x hx)⟩
theorem smDe.ok {d : Dec} (h : smDe d) : okDe d := by
  obtain ⟨h1, ⟨h2, h3⟩, ⟨h4, h5⟩, ⟨h6, h7⟩, h8, ⟨h9, h10⟩, h11, h12⟩ := h
  exact ⟨by omega, ⟨by omega, fun f hf => (h3 f hf).ok⟩, ⟨by omega, fun f hf => (h5 f hf).ok⟩, ⟨by omega, fun f hf => (h7 f hf).ok⟩, by omega, ⟨by omega, fun f hf => by have := h10 f hf; omega⟩, h11.ok, smEx.ok _ h12⟩
theorem smPr.ok {p : Prg} (h : smPr p) : okPr p := ⟨⟨by have := h.1.1; omega, fun f hf => (h.1.2 f hf).ok⟩, smEx.ok _ h.2⟩
theorem smMapB {f : Ty → Ty} (hf : ∀ t, smTy t → smTy (f t)) (s : Sig) (h : smSi s) : smSi (mapSi f s) := by
  obtain ⟨h1, ⟨h2, h3⟩, ⟨h4, h5⟩, h6⟩ := h
  refine ⟨h1, ⟨by simpa [mapSi] using h2, fun x hx => ?_⟩, ⟨by simpa [mapSi] using h4, fun x hx => ?_⟩, hf _ h6⟩
  · obtain ⟨y, hy, rfl⟩ := List.mem_map.1 hx
    exact ⟨(h3 y hy).1, hf _ (h3 y hy).2⟩
  · obtain ⟨y, hy, rfl⟩ := List.mem_map.1 hx
    exact ⟨(h5 y hy).1, hf _ (h5 y hy).2⟩
theorem smSubstB (ns : List Str) (us : List Ty) (hu : ∀ t ∈ us, smTy t) (s : Sig) (h : smSi s) : smSi (mapSi (substTy ns us) s) := smMapB (fun t => smTy_subst hu t) s h
theorem smFlds {d : Dec} (h : smDe d) {us : List Ty} (hu : ∀ t ∈ us, smTy t) : ∀ f ∈ fldsOf d us, smPa f := fun f hf => by
  obtain ⟨y, hy, rfl⟩ := List.mem_map.1 hf
  have := h.2.2.1.2 y hy
  exact ⟨this.1, smTy_subst hu _ this.2⟩
theorem smSpecsTo {d : Dec} (h : smDe d) {us : List Ty} (hu : ∀ t ∈ us, smTy t) : ∀ k, ∀ s ∈ specsTo d us k, smSi s
  | 0, s, hs => by simp [specsTo] at hs
  | k + 1, s, hs => by
    have ih := smSpecsTo h hu k
    by_cases hk : k < d.sigs.length
    · rw [specsTo_succ d us k hk] at hs
      split at hs
      · exact ih s hs
      · rcases List.mem_append.1 hs with hs | hs
        · exact ih s hs
        · rw [List.mem_singleton.1 hs]
          exact smSubstB _ _ hu _ (smCanon _ (h.2.2.2.1.2 _ (List.getElem_mem hk)))
    · simp only [specsTo, List.getElem?_eq_none (show d.sigs.length ≤ k by omega)] at hs
      exact ih s hs
theorem smSpecs {d : Dec} (h : smDe d) {us : List Ty} (hu : ∀ t ∈ us, smTy t) : (specsOf d us).length ≤ 1000000 ∧ ∀ s ∈ specsOf d us, smSi s :=
  ⟨by have := specsTo_len d us d.sigs.length; have := h.2.2.2.1.1; unfold specsOf; omega, smSpecsTo h hu _⟩
theorem smMthTo {p : Prg} (h : smPr p) {x : Ty} (hu : ∀ t ∈ x.args, smTy t) : ∀ k, ∀ s ∈ mthTo p x k, smSi s
  | 0, s, hs => by simp [mthTo] at hs
  | k + 1, s, hs => by
    have ih := smMthTo h hu k
    by_cases hk : k < p.decls.length
    · rw [mthTo_succ p x k hk] at hs
      split at hs
      · rcases List.mem_append.1 hs with hs | hs
        · exact ih s hs
        · rw [List.mem_singleton.1 hs]
          exact smSubstB _ _ hu _ (smCanon _ (smSi_of h hk).1)
      · exact ih s hs
    · simp only [mthTo, List.getElem?_eq_none (show p.decls.length ≤ k by omega)] at hs
      exact ih s hs
theorem smMths {p : Prg} (h : smPr p) {x : Ty} (hu : ∀ t ∈ x.args, smTy t) : (mthsOf p x).length ≤ 2000 ∧ ∀ s ∈ mthsOf p x, smSi s := by
  unfold mthsOf
  split
  · exact ⟨by have := mthTo_len p x p.decls.length; have := h.1.1; omega, smMthTo h hu _⟩
  · simp
theorem instOf_find {p : Prg} {x : Ty} {k : Int} (hk : k ≠ 0) (h : instOf p x k = true) : ∃ j, tyFind p x.name = some j := by
  cases hf : tyFind p x.name with
  | some j => exact ⟨j, rfl⟩
  | none =>
    have := tyFind_none hf
    simp [instOf, kindOf, this, zeroDe, Ne.symm hk] at h

/-! ## The laws -/

theorem tableMatches_calls (p : Prg) (x : Ty) (hp : okPr p) (hx : okTy x) (g d : Nat) : ACalls E 3 [encPr p, encTy x] [] g d (dB true) [] := by
  refine acalls_of_awp (fn := Tryd.f3) (N := 111) Tryd.call3 Tryd.func3 rfl rfl (by simp) ?_
  simp only [go_sem]
  refine awp_seq_k (fun K1 hK1 => ?_)
  refine awp_plain 3 (by kernel_rfl) rfl (fun g0 hg0 => ?_)
  simp only [go_sem]
  refine hK1 _ ?_
  refine awp_seq_k (fun K2 hK2 => ?_)
  refine awp_seq_k (fun K3 hK3 => ?_)
  refine awp_ops (by kernel_rfl) rfl (fun g1 hg1 ops1 KR1 hops1 hKR1 => ?_)
  refine aops_eval 0 hops1 ?_
  simp only [go_sem]
  refine aops_pure hops1 rfl rfl rfl (awake_calls _ _) (CoL.refl _) ?_
  refine aops_eval 3 hops1 ?_
  simp only [go_sem]
  cases hfa : decide (cntPr p ≤ 600) with
  | false =>
    refine aops_pure hops1 rfl rfl rfl (few06_calls p hp _ _) (CoL.refl _) ?_
    refine aops_last 7 hops1 ?_
    simp only [go_sem, hfa]
    refine hKR1 _ ?_
    refine hK3 _ ?_
    refine awp_t rfl ?_
    refine awp_seq_k (fun K4 hK4 => ?_)
    refine awp_ops (by kernel_rfl) rfl (fun g2 hg2 ops2 KR2 hops2 hKR2 => ?_)
    refine aops_eval 0 hops2 ?_
    simp only [go_sem]
    refine aops_pure hops2 rfl rfl rfl (awake_calls _ _) (CoL.refl _) ?_
    refine aops_last 1 hops2 ?_
    simp only [go_sem]
    refine hKR2 _ ?_
    refine hK4 _ ?_
    refine awp_ret ?_
    refine ends_ev rfl ?_
    simp only [go_sem]
    exact Co.refl _
  | true =>
    refine aops_pure hops1 rfl rfl rfl (few06_calls p hp _ _) (CoL.refl _) ?_
    refine aops_eval 4 hops1 ?_
    simp only [go_sem, hfa]
    cases hfb : decide (count x 0 ≤ 200) with
    | false =>
      refine aops_pure hops1 rfl rfl rfl (few04_calls x hx _ _) (CoL.refl _) ?_
      refine aops_last 2 hops1 ?_
      simp only [go_sem, hfb]
      refine hKR1 _ ?_
      refine hK3 _ ?_
      refine awp_t rfl ?_
      refine awp_seq_k (fun K5 hK5 => ?_)
      refine awp_ops (by kernel_rfl) rfl (fun g2 hg2 ops2 KR2 hops2 hKR2 => ?_)
      refine aops_eval 0 hops2 ?_
      simp only [go_sem]
      refine aops_pure hops2 rfl rfl rfl (awake_calls _ _) (CoL.refl _) ?_
      refine aops_last 1 hops2 ?_
      simp only [go_sem]
      refine hKR2 _ ?_
      refine hK5 _ ?_
      refine awp_ret ?_
      refine ends_ev rfl ?_
      simp only [go_sem]
      exact Co.refl _
    | true =>
      refine aops_pure hops1 rfl rfl rfl (few04_calls x hx _ _) (CoL.refl _) ?_
      refine aops_last 2 hops1 ?_
      simp only [go_sem, hfb]
      refine hKR1 _ ?_
      refine hK3 _ ?_
      refine awp_f rfl ?_
      refine awp_skip ?_
      refine hK2 _ ?_
      refine awp_seq_k (fun K6 hK6 => ?_)
      have mp := (cntPr_sm p (of_decide_eq_true hfa)).1
      have mx := count_sm x 0 (by have := of_decide_eq_true hfb; omega)
      have mu := ((smTy_iff x).1 mx).2.2
      have mt := smDe_get mp x.name
      have hl := mp.1.1
      have c1 : okDe { zeroDe with formals := fmsOf p x.name } := smDe.ok ⟨smDe_zero.1, ⟨mt.2.1.1, mt.2.1.2⟩, smDe_zero.2.2⟩
      have c2 : okDe { zeroDe with fields := fldsOf ((tyDe p x.name).getD zeroDe) x.args } := smDe.ok ⟨smDe_zero.1, smDe_zero.2.1, ⟨by have := mt.2.2.1.1; simpa [fldsOf] using this, smFlds mt mu⟩, smDe_zero.2.2.2⟩
      have c3 := smSpecs mt mu
      refine awp_ops (by kernel_rfl) rfl (fun g3 hg3 ops3 KR3 hops3 hKR3 => ?_)
      refine aops_eval 1 hops3 ?_
      simp only [go_sem]
      refine aops_pure hops3 rfl rfl rfl (tableNew_calls p mp _ _) (CoL.refl _) ?_
      refine aops_last 1 hops3 ?_
      simp only [go_sem]
      refine hKR3 _ ?_
      refine hK6 _ ?_
      refine awp_seq_k (fun K7 hK7 => ?_)
      refine awp_ops (by kernel_rfl) rfl (fun g4 hg4 ops4 KR4 hops4 hKR4 => ?_)
      refine aops_eval 2 hops4 ?_
      simp only [go_sem]
      refine aops_pure hops4 rfl rfl rfl (tbFields_calls p mp x mx _ _) (CoL.refl _) ?_
      refine aops_last 5 hops4 ?_
      simp only [go_sem]
      refine hKR4 _ ?_
      refine hK7 _ ?_
      refine awp_seq_k (fun K8 hK8 => ?_)
      refine awp_ops (by kernel_rfl) rfl (fun g5 hg5 ops5 KR5 hops5 hKR5 => ?_)
      refine aops_eval 2 hops5 ?_
      simp only [go_sem]
      refine aops_pure hops5 rfl rfl rfl (tbSpecs_calls p mp x mx _ _) (CoL.refl _) ?_
      refine aops_last 5 hops5 ?_
      simp only [go_sem]
      refine hKR5 _ ?_
      refine hK8 _ ?_
      refine awp_seq_k (fun K9 hK9 => ?_)
      refine awp_seq_k (fun K10 hK10 => ?_)
      refine awp_anyq (by kernel_rfl) rfl (fun g6 hg6 ops6 KR6 hops6 hKR6 => ?_)
      refine qrun_eval 3 hops6 ?_
      simp only [go_sem]
      refine qrun_pure hops6 rfl rfl rfl (tbKind_calls p x.name _ _) (CoL.refl _) rfl ?_
      refine qrun_eval 3 hops6 ?_
      simp only [go_sem]
      refine qrun_pure hops6 rfl rfl rfl (refKind_calls p x.name hl _ _) (CoL.refl _) rfl ?_
      refine qrun_eval 5 hops6 ?_
      simp only [go_sem]
      refine qrun_pure hops6 rfl rfl rfl (refInst_calls p x 1 hl _ _) (CoL.refl _) rfl ?_
      refine qrun_eval 6 hops6 ?_
      simp only [go_sem]
      refine qrun_pure hops6 rfl rfl rfl (refInst_calls p x 2 hl _ _) (CoL.refl _) rfl ?_
      refine qrun_eval 6 hops6 ?_
      simp only [go_sem]
      refine qrun_pure hops6 rfl rfl rfl (tbFms_calls p mp x.name _ _) (CoL.refl _) rfl ?_
      refine qrun_eval 4 hops6 ?_
      simp only [go_sem, List.cons_append, List.nil_append]
      refine qrun_pure hops6 rfl rfl rfl (refFms_calls p x.name hl _ _) (CoL.refl _) rfl ?_
      refine qrun_eval 1 hops6 ?_
      simp only [go_sem, List.cons_append, List.nil_append]
      refine qrun_pure hops6 rfl rfl rfl (decl06 true { zeroDe with formals := fmsOf p x.name } c1 _ _) (.cons (.agg (.cons (.refl _) (.cons (.refl _) (.cons (.refl _) (.cons (.nil _) (.cons (.nil _) (.cons (.refl _) (.cons (.nil _) (.cons (.refl _) (.cons (.nil _) (.cons (.nil _) (.cons (.refl _) (.cons (.nil _) (.cons (.refl _) (.cons (.refl _) (.cons (.refl _) (.cons (.refl _) (.cons (.refl _) (.cons (.nil _) (.cons (.refl _) (.cons (.nil _) (.cons (.nil _) (.cons (.refl _) (.cons (.refl _) .nil)))))))))))))))))))))))) (.cons (.agg (.cons (.refl _) (.cons (.refl _) (.cons (.refl _) (.cons (.nil _) (.cons (.nil _) (.cons (.refl _) (.cons (.nil _) (.cons (.refl _) (.cons (.nil _) (.cons (.nil _) (.cons (.refl _) (.cons (.nil _) (.cons (.refl _) (.cons (.refl _) (.cons (.refl _) (.cons (.refl _) (.cons (.refl _) (.cons (.nil _) (.cons (.refl _) (.cons (.nil _) (.cons (.nil _) (.cons (.refl _) (.cons (.refl _) .nil)))))))))))))))))))))))) (.cons (.refl _) .nil))) rfl ?_
      refine qrun_last 2 hops6 ?_
      simp only [go_sem, Bool.not_true, List.nil_append]
      refine hKR6 _ ?_
      refine hK10 _ ?_
      refine awp_f rfl ?_
      refine awp_skip ?_
      refine hK9 _ ?_
      refine awp_seq_k (fun K11 hK11 => ?_)
      refine awp_seq_k (fun K12 hK12 => ?_)
      cases h1 : instOf p x 1 with
      | false =>
        have e1 : ¬ ((false : Bool) = true) := by decide
        refine awp_plain 20 (by kernel_rfl) rfl (fun g8 hg8 => ?_)
        simp only [go_sem, if_neg, List.map_nil, List.length_nil, Bool.not_false, List.nil_append]
        refine hK12 _ ?_
        refine awp_f rfl ?_
        refine awp_skip ?_
        refine hK11 _ ?_
        refine awp_seq_k (fun K13 hK13 => ?_)
        cases h2 : instOf p x 2 with
        | false =>
          refine awp_plain 18 (by kernel_rfl) rfl (fun g10 hg10 => ?_)
          simp only [go_sem, if_neg, List.map_nil, List.length_nil, List.nil_append]
          refine hK13 _ ?_
          refine awp_ret ?_
          refine ends_ev rfl ?_
          simp only [go_sem]
          exact Co.refl _
        | true =>
          obtain ⟨j, hj⟩ := instOf_find (by decide) h2
          refine awp_ops (by kernel_rfl) rfl (fun g10 hg10 ops10 KR10 hops10 hKR10 => ?_)
          refine aops_eval 5 hops10 ?_
          simp only [go_sem, List.nil_append]
          refine aops_pure hops10 rfl rfl rfl (refSpecs_calls p mp x mx j hj _ _) (CoL.refl _) ?_
          refine aops_pure hops10 rfl rfl rfl (sigs_calls _ (by have := c3.1; omega) (fun s hs => (c3.2 s hs).ok) _ _) (CoL.refl _) ?_
          refine aops_last 11 hops10 ?_
          simp only [go_sem, List.nil_append]
          refine hKR10 _ ?_
          refine hK13 _ ?_
          refine awp_ret ?_
          refine ends_ev rfl ?_
          simp only [go_sem]
          exact Co.refl _
      | true =>
        obtain ⟨j, hj⟩ := instOf_find (by decide) h1
        refine awp_ops (by kernel_rfl) rfl (fun g8 hg8 ops8 KR8 hops8 hKR8 => ?_)
        refine aops_eval 6 hops8 ?_
        simp only [go_sem, List.cons_append, List.nil_append]
        refine aops_pure hops8 rfl rfl rfl (refFields_calls p mp x mx j hj _ _) (CoL.refl _) ?_
        refine aops_eval 1 hops8 ?_
        simp only [go_sem, List.cons_append, List.nil_append]
        refine aops_pure hops8 rfl rfl rfl (decl06 true { zeroDe with fields := fldsOf ((tyDe p x.name).getD zeroDe) x.args } c2 _ _) (.cons (.agg (.cons (.refl _) (.cons (.refl _) (.cons (.nil _) (.cons (.refl _) (.cons (.nil _) (.cons (.refl _) (.cons (.nil _) (.cons (.refl _) (.cons (.nil _) (.cons (.nil _) (.cons (.refl _) (.cons (.nil _) (.cons (.refl _) (.cons (.refl _) (.cons (.refl _) (.cons (.refl _) (.cons (.refl _) (.cons (.nil _) (.cons (.refl _) (.cons (.nil _) (.cons (.nil _) (.cons (.refl _) (.cons (.refl _) .nil)))))))))))))))))))))))) (.cons (.agg (.cons (.refl _) (.cons (.refl _) (.cons (.nil _) (.cons (.refl _) (.cons (.nil _) (.cons (.refl _) (.cons (.nil _) (.cons (.refl _) (.cons (.nil _) (.cons (.nil _) (.cons (.refl _) (.cons (.nil _) (.cons (.refl _) (.cons (.refl _) (.cons (.refl _) (.cons (.refl _) (.cons (.refl _) (.cons (.nil _) (.cons (.refl _) (.cons (.nil _) (.cons (.nil _) (.cons (.refl _) (.cons (.refl _) .nil)))))))))))))))))))))))) (.cons (.refl _) .nil))) ?_
        refine aops_last 11 hops8 ?_
        simp only [go_sem, Bool.not_true, List.nil_append]
        refine hKR8 _ ?_
        refine hK12 _ ?_
        refine awp_f rfl ?_
        refine awp_skip ?_
        refine hK11 _ ?_
        refine awp_seq_k (fun K14 hK14 => ?_)
        cases h2 : instOf p x 2 with
        | false =>
          refine awp_plain 18 (by kernel_rfl) rfl (fun g10 hg10 => ?_)
          simp only [go_sem, if_neg, List.map_nil, List.length_nil, List.nil_append]
          refine hK14 _ ?_
          refine awp_ret ?_
          refine ends_ev rfl ?_
          simp only [go_sem]
          exact Co.refl _
        | true =>
          obtain ⟨j, hj⟩ := instOf_find (by decide) h2
          refine awp_ops (by kernel_rfl) rfl (fun g10 hg10 ops10 KR10 hops10 hKR10 => ?_)
          refine aops_eval 5 hops10 ?_
          simp only [go_sem, List.nil_append]
          refine aops_pure hops10 rfl rfl rfl (refSpecs_calls p mp x mx j hj _ _) (CoL.refl _) ?_
          refine aops_pure hops10 rfl rfl rfl (sigs_calls _ (by have := c3.1; omega) (fun s hs => (c3.2 s hs).ok) _ _) (CoL.refl _) ?_
          refine aops_last 11 hops10 ?_
          simp only [go_sem, List.nil_append]
          refine hKR10 _ ?_
          refine hK14 _ ?_
          refine awp_ret ?_
          refine ends_ev rfl ?_
          simp only [go_sem]
          exact Co.refl _
end Go.Proofs.T

