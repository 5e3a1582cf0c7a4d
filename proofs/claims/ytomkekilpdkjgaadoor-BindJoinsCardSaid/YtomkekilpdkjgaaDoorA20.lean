/- A part of the proof, under no conditions of its own: A20. -/
import Derived.Test.YtomkekilpdkjgaaDoorA19
namespace Go.Proofs.T
open Go Go.Ab Go.RowKit

/-! ## The laws -/


theorem bindMatches_calls (a b : Sig) (ha : okSi a) (hb : okSi b) (g d : Nat) : ACalls E 3 [encSi a, encSi b] [] g d (dB true) [] := by
  refine acalls_of_awp (fn := Tryd.f3) (N := 45) Tryd.call3 Tryd.func3 rfl rfl (by simp) ?_
  simp only [go_sem]
  refine awp_seq_k (fun K1 hK1 => ?_)
  refine awp_plain 3 (by kernel_rfl) rfl (fun g0 hg0 => ?_)
  simp only [go_sem]
  refine hK1 _ ?_
  refine awp_seq_k (fun K2 hK2 => ?_)
  refine awp_seq_k (fun K3 hK3 => ?_)
  refine awp_ops (by kernel_rfl) rfl (fun g1 hg1 ops1 KR1 hops1 hKR1 => ?_)
  refine aops_eval 0 hops1 ?_
  simp only [go_sem]
  refine aops_pure hops1 rfl rfl rfl (awake_calls _ _) (CoL.refl _) ?_
  refine aops_eval 3 hops1 ?_
  simp only [go_sem]
  cases hfa : few10 a with
  | false =>
    refine aops_pure hops1 rfl rfl rfl (few10_calls a ha _ _) (CoL.refl _) ?_
    refine aops_last 7 hops1 ?_
    simp only [go_sem, hfa]
    refine hKR1 _ ?_
    refine hK3 _ ?_
    refine awp_t rfl ?_
    refine awp_seq_k (fun K4 hK4 => ?_)
    refine awp_ops (by kernel_rfl) rfl (fun g2 hg2 ops2 KR2 hops2 hKR2 => ?_)
    refine aops_eval 0 hops2 ?_
    simp only [go_sem]
    refine aops_pure hops2 rfl rfl rfl (awake_calls _ _) (CoL.refl _) ?_
    refine aops_last 1 hops2 ?_
    simp only [go_sem]
    refine hKR2 _ ?_
    refine hK4 _ ?_
    refine awp_ret ?_
    refine ends_ev rfl ?_
    simp only [go_sem]
    exact Co.refl _
  | true =>
    refine aops_pure hops1 rfl rfl rfl (few10_calls a ha _ _) (CoL.refl _) ?_
    refine aops_eval 4 hops1 ?_
    simp only [go_sem, hfa]
    cases hfb : few10 b with
    | false =>
      refine aops_pure hops1 rfl rfl rfl (few10_calls b hb _ _) (CoL.refl _) ?_
      refine aops_last 2 hops1 ?_
      simp only [go_sem, hfb]
      refine hKR1 _ ?_
      refine hK3 _ ?_
      refine awp_t rfl ?_
      refine awp_seq_k (fun K5 hK5 => ?_)
      refine awp_ops (by kernel_rfl) rfl (fun g2 hg2 ops2 KR2 hops2 hKR2 => ?_)
      refine aops_eval 0 hops2 ?_
      simp only [go_sem]
      refine aops_pure hops2 rfl rfl rfl (awake_calls _ _) (CoL.refl _) ?_
      refine aops_last 1 hops2 ?_
      simp only [go_sem]
      refine hKR2 _ ?_
      refine hK5 _ ?_
      refine awp_ret ?_
      refine ends_ev rfl ?_
      simp only [go_sem]
      exact Co.refl _
    | true =>
      refine aops_pure hops1 rfl rfl rfl (few10_calls b hb _ _) (CoL.refl _) ?_
      refine aops_last 2 hops1 ?_
      simp only [go_sem, hfb]
      refine hKR1 _ ?_
      refine hK3 _ ?_
      refine awp_f rfl ?_
      refine awp_skip ?_
      refine hK2 _ ?_
      refine awp_seq_k (fun K6 hK6 => ?_)
      have ma := (few10_sm hfa).1
      have mb := (few10_sm hfb).1
      have mc := smCanon a ma
      have h1 : refSi true (canonSi a) (canonSi a) = true := refSi_self _ _
      have h2 : refSi true (canonSi (canonSi a)) (canonSi a) = true := by rw [canonSi_idem]; exact refSi_self _ _
      have h3 : alike a (canonSi a) = true := by rw [alike_iff, key, key, canonSi_idem]
      refine awp_ops (by kernel_rfl) rfl (fun g3 hg3 ops3 KR3 hops3 hKR3 => ?_)
      refine aops_eval 1 hops3 ?_
      simp only [go_sem]
      refine aops_pure hops3 rfl rfl rfl (canonF_calls a ma _ _) (CoL.refl _) ?_
      refine aops_last 2 hops3 ?_
      simp only [go_sem]
      refine hKR3 _ ?_
      refine hK6 _ ?_
      refine awp_seq_k (fun K7 hK7 => ?_)
      refine awp_any 24 (by kernel_rfl) (by kernel_rfl) rfl (fun g4 hg4 ops4 KR4 hops4 hKR4 => ?_)
      refine qrun_eval 2 hops4 ?_
      simp only [go_sem]
      refine qrun_pure hops4 rfl rfl rfl (refCanonF_calls a ma _ _) (CoL.refl _) rfl ?_
      refine qrun_pure hops4 rfl rfl rfl (refSig_calls true _ _ mc.ok _ _) (CoL.refl _) rfl ?_
      refine qrun_eval 2 hops4 ?_
      simp only [go_sem, h1]
      refine qrun_pure hops4 rfl rfl rfl (canonF_calls _ mc _ _) (CoL.refl _) rfl ?_
      refine qrun_eval 1 hops4 ?_
      simp only [go_sem]
      refine qrun_pure hops4 rfl rfl rfl (refSig_calls true _ _ (smCanon _ mc).ok _ _) (CoL.refl _) rfl ?_
      refine qrun_eval 4 hops4 ?_
      simp only [go_sem, h2]
      refine qrun_pure hops4 rfl rfl rfl (alike_calls a b ma mb _ _) (CoL.refl _) rfl ?_
      refine qrun_eval 2 hops4 ?_
      simp only [go_sem]
      refine qrun_pure hops4 rfl rfl rfl (refAlike_calls a b ma mb _ _) (CoL.refl _) rfl ?_
      refine qrun_eval 5 hops4 ?_
      simp only [go_sem, decide_true]
      refine qrun_pure hops4 rfl rfl rfl (alike_calls a _ ma mc _ _) (CoL.refl _) rfl ?_
      refine qrun_last 1 hops4 ?_
      simp only [go_sem, h3]
      refine aops_last 1 hops4 ?_
      simp only [go_sem]
      refine hKR4 _ ?_
      refine hK7 _ ?_
      refine awp_ret ?_
      refine ends_ev rfl ?_
      simp only [go_sem]
      exact Co.refl _

theorem smMap {f : Ty → Ty} (hf : ∀ t, smTy t → smTy (f t)) (s : Sig) (h : smSi s) : smSi (mapSi f s) := by
  obtain ⟨h1, ⟨h2, h3⟩, ⟨h4, h5⟩, h6⟩ := h
  refine ⟨h1, ⟨by simpa [mapSi] using h2, fun x hx => ?_⟩, ⟨by simpa [mapSi] using h4, fun x hx => ?_⟩, hf _ h6⟩
  · obtain ⟨y, hy, rfl⟩ := List.mem_map.1 hx
    exact ⟨(h3 y hy).1, hf _ (h3 y hy).2⟩
  · obtain ⟨y, hy, rfl⟩ := List.mem_map.1 hx
    exact ⟨(h5 y hy).1, hf _ (h5 y hy).2⟩
theorem smSubst (ns : List Str) (us : List Ty) (hu : ∀ t ∈ us, smTy t) (s : Sig) (h : smSi s) : smSi (mapSi (substTy ns us) s) := smMap (fun t => smTy_subst hu t) s h

theorem bindSubst_calls (s : Sig) (ns : List Str) (us : List Ty) (hs : okSi s) (hn : ns.length ≤ 9223372036854775807) (hu : us.length ≤ 9223372036854775807) (hu2 : ∀ t ∈ us, okTy t) (g d : Nat) :
    ACalls E 4 [encSi s, slS ns, slTy us] [] g d (dB true) [] := by
  refine acalls_of_awp (fn := Tryd.f4) (N := 71) Tryd.call4 Tryd.func4 rfl rfl (by simp) ?_
  simp only [go_sem]
  refine awp_seq_k (fun K1 hK1 => ?_)
  refine awp_plain 2 (by kernel_rfl) rfl (fun g0 hg0 => ?_)
  simp only [go_sem]
  refine hK1 _ ?_
  refine awp_seq_k (fun K2 hK2 => ?_)
  refine awp_seq_k (fun K3 hK3 => ?_)
  refine awp_ops (by kernel_rfl) rfl (fun g1 hg1 ops1 KR1 hops1 hKR1 => ?_)
  refine aops_eval 0 hops1 ?_
  simp only [go_sem]
  refine aops_pure hops1 rfl rfl rfl (awake_calls _ _) (CoL.refl _) ?_
  refine aops_eval 3 hops1 ?_
  simp only [go_sem]
  cases hfa : few10 s with
  | false =>
    refine aops_pure hops1 rfl rfl rfl (few10_calls s hs _ _) (CoL.refl _) ?_
    refine aops_last 12 hops1 ?_
    simp only [go_sem, hfa]
    refine hKR1 _ ?_
    refine hK3 _ ?_
    refine awp_t rfl ?_
    refine awp_seq_k (fun K4 hK4 => ?_)
    refine awp_ops (by kernel_rfl) rfl (fun g2 hg2 ops2 KR2 hops2 hKR2 => ?_)
    refine aops_eval 0 hops2 ?_
    simp only [go_sem]
    refine aops_pure hops2 rfl rfl rfl (awake_calls _ _) (CoL.refl _) ?_
    refine aops_last 1 hops2 ?_
    simp only [go_sem]
    refine hKR2 _ ?_
    refine hK4 _ ?_
    refine awp_ret ?_
    refine ends_ev rfl ?_
    simp only [go_sem]
    exact Co.refl _
  | true =>
    by_cases hl : 20 < (ns.length : Int)
    · refine aops_pure hops1 rfl rfl rfl (few10_calls s hs _ _) (CoL.refl _) ?_
      refine aops_last 12 hops1 ?_
      simp only [go_sem, hfa, hl, decide_true]
      refine hKR1 _ ?_
      refine hK3 _ ?_
      refine awp_t rfl ?_
      refine awp_seq_k (fun K5 hK5 => ?_)
      refine awp_ops (by kernel_rfl) rfl (fun g2 hg2 ops2 KR2 hops2 hKR2 => ?_)
      refine aops_eval 0 hops2 ?_
      simp only [go_sem]
      refine aops_pure hops2 rfl rfl rfl (awake_calls _ _) (CoL.refl _) ?_
      refine aops_last 1 hops2 ?_
      simp only [go_sem]
      refine hKR2 _ ?_
      refine hK5 _ ?_
      refine awp_ret ?_
      refine ends_ev rfl ?_
      simp only [go_sem]
      exact Co.refl _
    · cases hfb : decide (cnt count us 0 ≤ 200) with
      | false =>
        refine aops_pure hops1 rfl rfl rfl (few10_calls s hs _ _) (CoL.refl _) ?_
        refine aops_eval 9 hops1 ?_
        simp only [go_sem, hfa, hl, decide_false]
        refine aops_pure hops1 rfl rfl rfl (fewAll_calls us hu hu2 _ _) (CoL.refl _) ?_
        refine aops_last 2 hops1 ?_
        simp only [go_sem, hfb]
        refine hKR1 _ ?_
        refine hK3 _ ?_
        refine awp_t rfl ?_
        refine awp_seq_k (fun K6 hK6 => ?_)
        refine awp_ops (by kernel_rfl) rfl (fun g2 hg2 ops2 KR2 hops2 hKR2 => ?_)
        refine aops_eval 0 hops2 ?_
        simp only [go_sem]
        refine aops_pure hops2 rfl rfl rfl (awake_calls _ _) (CoL.refl _) ?_
        refine aops_last 1 hops2 ?_
        simp only [go_sem]
        refine hKR2 _ ?_
        refine hK6 _ ?_
        refine awp_ret ?_
        refine ends_ev rfl ?_
        simp only [go_sem]
        exact Co.refl _
      | true =>
        refine aops_pure hops1 rfl rfl rfl (few10_calls s hs _ _) (CoL.refl _) ?_
        refine aops_eval 9 hops1 ?_
        simp only [go_sem, hfa, hl, decide_false]
        refine aops_pure hops1 rfl rfl rfl (fewAll_calls us hu hu2 _ _) (CoL.refl _) ?_
        refine aops_last 2 hops1 ?_
        simp only [go_sem, hfb]
        refine hKR1 _ ?_
        refine hK3 _ ?_
        refine awp_f rfl ?_
        refine awp_skip ?_
        refine hK2 _ ?_
        refine awp_seq_k (fun K7 hK7 => ?_)
        have ms := (few10_sm hfa).1
        have mu := cntTys_sm us 0 (by have := of_decide_eq_true hfb; omega)
        have hr : ∀ t : Sig, refSi true t t = true := fun t => refSi_self _ t
        have hz := okSi_zero
        have hap := apply_calls s us ms mu.2
        have hu3 := fun t ht => smTy_subst (ns := ns) mu.2 t ht
        by_cases he : s.formals.length = us.length
        · have he2 : ((s.formals.length : Int) = us.length) = True := by simp [he]
          have he3 : (s.formals.length = us.length) = True := by simp [he]
          have hs1 := smSubst ns us mu.2 s ms
          have hs2 := smSubst (s.formals.map (·.name)) us mu.2 s ms
          refine awp_ops (by kernel_rfl) rfl (fun g3 hg3 ops3 KR3 hops3 hKR3 => ?_)
          refine aops_eval 2 hops3 ?_
          simp only [go_sem]
          refine aops_pure hops3 rfl rfl rfl (hap _ _) (CoL.refl _) ?_
          refine aops_last 6 hops3 ?_
          simp only [go_sem, if_pos he]
          refine hKR3 _ ?_
          refine hK7 _ ?_
          refine awp_seq_k (fun K8 hK8 => ?_)
          refine awp_plain 3 (by kernel_rfl) rfl (fun g4 hg4 => ?_)
          simp only [go_sem]
          refine hK8 _ ?_
          refine awp_seq_k (fun K9 hK9 => ?_)
          refine awp_seq_k (fun K10 hK10 => ?_)
          refine awp_plain 6 (by kernel_rfl) rfl (fun g5 hg5 => ?_)
          simp only [go_sem, he2, decide_true]
          refine hK10 _ ?_
          refine awp_t rfl ?_
          refine awp_any 6 (by kernel_rfl) (by kernel_rfl) rfl (fun g6 hg6 ops6 KR6 hops6 hKR6 => ?_)
          refine qrun_eval 3 hops6 ?_
          simp only [go_sem]
          refine qrun_pure hops6 rfl rfl rfl (refNames_calls s.formals ms.2.1.1 _ _) (CoL.refl _) rfl ?_
          refine qrun_eval 1 hops6 ?_
          simp only [go_sem]
          refine qrun_pure hops6 rfl rfl rfl (refSubstSigF_calls (s.formals.map (·.name)) us (by simpa using ms.2.1.1) mu.2 s ms _ _) (CoL.refl _) rfl ?_
          refine qrun_last 0 hops6 ?_
          simp only [go_sem]
          refine aops_last 1 hops6 ?_
          simp only [go_sem]
          refine hKR6 _ ?_
          refine hK9 _ ?_
          refine awp_seq_k (fun K11 hK11 => ?_)
          refine awp_any 24 (by kernel_rfl) (by kernel_rfl) rfl (fun g7 hg7 ops7 KR7 hops7 hKR7 => ?_)
          refine qrun_eval 3 hops7 ?_
          simp only [go_sem]
          refine qrun_pure hops7 rfl rfl rfl (substSigF_calls ns us (by omega) mu.2 s ms _ _) (CoL.refl _) rfl ?_
          refine qrun_eval 3 hops7 ?_
          simp only [go_sem]
          refine qrun_pure hops7 rfl rfl rfl (refSubstSigF_calls ns us (by omega) mu.2 s ms _ _) (CoL.refl _) rfl ?_
          refine qrun_pure hops7 rfl rfl rfl (refSig_calls true _ _ hs1.ok _ _) (CoL.refl _) rfl ?_
          refine qrun_eval 13 hops7 ?_
          simp only [go_sem, hr, he2, he3, decide_true]
          refine qrun_pure hops7 rfl rfl rfl (refSig_calls true (applySi s us) (applySi s us) hs2.ok _ _) (CoL.refl _) rfl ?_
          refine qrun_last 1 hops7 ?_
          simp only [go_sem, hr]
          refine aops_last 1 hops7 ?_
          simp only [go_sem]
          refine hKR7 _ ?_
          refine hK11 _ ?_
          refine awp_ret ?_
          refine ends_ev rfl ?_
          simp only [go_sem]
          exact Co.refl _
        · have he2 : ((s.formals.length : Int) = us.length) = False := by apply eq_false; omega
          have he3 : (s.formals.length = us.length) = False := by simp [he]
          have hs1 := smSubst ns us mu.2 s ms
          refine awp_ops (by kernel_rfl) rfl (fun g3 hg3 ops3 KR3 hops3 hKR3 => ?_)
          refine aops_eval 2 hops3 ?_
          simp only [go_sem]
          refine aops_pure hops3 rfl rfl rfl (hap _ _) (CoL.refl _) ?_
          refine aops_last 6 hops3 ?_
          simp only [go_sem, if_neg he]
          refine hKR3 _ ?_
          refine hK7 _ ?_
          refine awp_seq_k (fun K12 hK12 => ?_)
          refine awp_plain 3 (by kernel_rfl) rfl (fun g4 hg4 => ?_)
          simp only [go_sem]
          refine hK12 _ ?_
          refine awp_seq_k (fun K13 hK13 => ?_)
          refine awp_seq_k (fun K14 hK14 => ?_)
          refine awp_plain 6 (by kernel_rfl) rfl (fun g5 hg5 => ?_)
          simp only [go_sem, he2, decide_false]
          refine hK14 _ ?_
          refine awp_f rfl ?_
          refine awp_skip ?_
          refine hK13 _ ?_
          refine awp_seq_k (fun K15 hK15 => ?_)
          refine awp_any 24 (by kernel_rfl) (by kernel_rfl) rfl (fun g7 hg7 ops7 KR7 hops7 hKR7 => ?_)
          refine qrun_eval 3 hops7 ?_
          simp only [go_sem]
          refine qrun_pure hops7 rfl rfl rfl (substSigF_calls ns us (by omega) mu.2 s ms _ _) (CoL.refl _) rfl ?_
          refine qrun_eval 3 hops7 ?_
          simp only [go_sem]
          refine qrun_pure hops7 rfl rfl rfl (refSubstSigF_calls ns us (by omega) mu.2 s ms _ _) (CoL.refl _) rfl ?_
          refine qrun_pure hops7 rfl rfl rfl (refSig_calls true _ _ hs1.ok _ _) (CoL.refl _) rfl ?_
          refine qrun_eval 13 hops7 ?_
          simp only [go_sem, hr, he2, he3, decide_false, decide_true]
          refine qrun_pure hops7 rfl rfl rfl (refSig_calls true zeroSi zeroSi hz _ _) (.cons (.refl _) (.cons coZeroSi (.cons (.refl _) .nil))) rfl ?_
          refine qrun_last 1 hops7 ?_
          simp only [go_sem, hr]
          refine aops_last 1 hops7 ?_
          simp only [go_sem]
          refine hKR7 _ ?_
          refine hK15 _ ?_
          refine awp_ret ?_
          refine ends_ev rfl ?_
          simp only [go_sem]
          exact Co.refl _


theorem bindBounds_calls (l : List Formal) (t : Ty) (hl : l.length ≤ 9223372036854775807) (hl2 : ∀ f ∈ l, okFm f) (ht : okTy t) (g d : Nat) : ACalls E 5 [slFm l, encTy t] [] g d (dB true) [] := by
  refine acalls_of_awp (fn := Tryd.f5) (N := 49) Tryd.call5 Tryd.func5 rfl rfl (by simp) ?_
  simp only [go_sem]
  refine awp_seq_k (fun K1 hK1 => ?_)
  refine awp_plain 2 (by kernel_rfl) rfl (fun g0 hg0 => ?_)
  simp only [go_sem]
  refine hK1 _ ?_
  refine awp_seq_k (fun K2 hK2 => ?_)
  refine awp_seq_k (fun K3 hK3 => ?_)
  refine awp_ops (by kernel_rfl) rfl (fun g1 hg1 ops1 KR1 hops1 hKR1 => ?_)
  refine aops_eval 0 hops1 ?_
  simp only [go_sem]
  refine aops_pure hops1 rfl rfl rfl (awake_calls _ _) (CoL.refl _) ?_
  refine aops_eval 3 hops1 ?_
  simp only [go_sem]
  cases hfa : fewEnv l with
  | false =>
    refine aops_pure hops1 rfl rfl rfl (fewEnv_calls l ⟨hl, hl2⟩ _ _) (CoL.refl _) ?_
    refine aops_last 7 hops1 ?_
    simp only [go_sem, hfa]
    refine hKR1 _ ?_
    refine hK3 _ ?_
    refine awp_t rfl ?_
    refine awp_seq_k (fun K4 hK4 => ?_)
    refine awp_ops (by kernel_rfl) rfl (fun g2 hg2 ops2 KR2 hops2 hKR2 => ?_)
    refine aops_eval 0 hops2 ?_
    simp only [go_sem]
    refine aops_pure hops2 rfl rfl rfl (awake_calls _ _) (CoL.refl _) ?_
    refine aops_last 1 hops2 ?_
    simp only [go_sem]
    refine hKR2 _ ?_
    refine hK4 _ ?_
    refine awp_ret ?_
    refine ends_ev rfl ?_
    simp only [go_sem]
    exact Co.refl _
  | true =>
    refine aops_pure hops1 rfl rfl rfl (fewEnv_calls l ⟨hl, hl2⟩ _ _) (CoL.refl _) ?_
    refine aops_eval 4 hops1 ?_
    simp only [go_sem, hfa]
    cases hfb : decide (count t 0 ≤ 200) with
    | false =>
      refine aops_pure hops1 rfl rfl rfl (few04_calls t ht _ _) (CoL.refl _) ?_
      refine aops_last 2 hops1 ?_
      simp only [go_sem, hfb]
      refine hKR1 _ ?_
      refine hK3 _ ?_
      refine awp_t rfl ?_
      refine awp_seq_k (fun K5 hK5 => ?_)
      refine awp_ops (by kernel_rfl) rfl (fun g2 hg2 ops2 KR2 hops2 hKR2 => ?_)
      refine aops_eval 0 hops2 ?_
      simp only [go_sem]
      refine aops_pure hops2 rfl rfl rfl (awake_calls _ _) (CoL.refl _) ?_
      refine aops_last 1 hops2 ?_
      simp only [go_sem]
      refine hKR2 _ ?_
      refine hK5 _ ?_
      refine awp_ret ?_
      refine ends_ev rfl ?_
      simp only [go_sem]
      exact Co.refl _
    | true =>
      refine aops_pure hops1 rfl rfl rfl (few04_calls t ht _ _) (CoL.refl _) ?_
      refine aops_last 2 hops1 ?_
      simp only [go_sem, hfb]
      refine hKR1 _ ?_
      refine hK3 _ ?_
      refine awp_f rfl ?_
      refine awp_skip ?_
      refine hK2 _ ?_
      refine awp_seq_k (fun K6 hK6 => ?_)
      have ml := fewEnv_sm hfa
      have he : ∀ x, eqTy x x = true := eqTy_self
      have hb := bound_calls l t (by have := ml.1; omega) ml.2 ht
      have hf := find_calls l t hl ht
      have hz := fun g d => ref04Equal_calls zeroTy okTy_zero zeroTy g d
      have none : boundOf l t = none → (if t.args.length = 0 then optI (l.findIdx? fun f => isS t.name f.name) else -1) = -1 → ∃ (hb : ∀ g d, ACalls E 22 [slFm l, encTy t] [] g d (.tup [encTy zeroTy, dB false]) [])
        (hf : ∀ g d, ACalls E 23 [slFm l, encTy t] [] g d (dI (-1)) []), True := fun h1 h2 => by
        rw [h1] at hb; rw [h2] at hf; exact ⟨hb, hf, trivial⟩
      by_cases h0 : t.args.length = 0
      · cases hi : l.findIdx? fun f => isS t.name f.name with
        | none =>
          obtain ⟨hb, hf, _⟩ := none (by simp [boundOf, h0, hi]) (by simp [h0, hi, optI])
          refine awp_ops (by kernel_rfl) rfl (fun g3 hg3 ops3 KR3 hops3 hKR3 => ?_)
          refine aops_eval 2 hops3 ?_
          simp only [go_sem]
          refine aops_pure hops3 rfl rfl rfl (hb _ _) (CoL.refl _) ?_
          refine aops_last 6 hops3 ?_
          simp only [go_sem]
          refine hKR3 _ ?_
          refine hK6 _ ?_
          refine awp_seq_k (fun K7 hK7 => ?_)
          refine awp_ops (by kernel_rfl) rfl (fun g4 hg4 ops4 KR4 hops4 hKR4 => ?_)
          refine aops_eval 2 hops4 ?_
          simp only [go_sem]
          refine aops_pure hops4 rfl rfl rfl (hf _ _) (CoL.refl _) ?_
          refine aops_last 1 hops4 ?_
          simp only [go_sem]
          refine hKR4 _ ?_
          refine hK7 _ ?_
          refine awp_seq_k (fun K8 hK8 => ?_)
          refine awp_seq_k (fun K9 hK9 => ?_)
          refine awp_plain 2 (by kernel_rfl) rfl (fun g5 hg5 => ?_)
          simp only [go_sem, show (-1 : Int) < 0 from by decide, decide_true]
          refine hK9 _ ?_
          refine awp_t rfl ?_
          refine awp_seq_k (fun K10 hK10 => ?_)
          refine awp_ops (by kernel_rfl) rfl (fun g6 hg6 ops6 KR6 hops6 hKR6 => ?_)
          refine aops_eval 5 hops6 ?_
          simp only [go_sem, Bool.not_false]
          refine aops_pure hops6 rfl rfl rfl (hz _ _) (.cons (.refl _) (.cons coZeroTy .nil)) ?_
          refine aops_last 2 hops6 ?_
          simp only [go_sem, he]
          refine hKR6 _ ?_
          refine hK10 _ ?_
          refine awp_ret ?_
          refine ends_ev rfl ?_
          simp only [go_sem]
          exact Co.refl _
        | some k =>
          obtain ⟨hk, hbo⟩ := boundOf_some h0 hi
          rw [hbo] at hb
          rw [if_pos h0, hi] at hf
          have hf : ∀ g d, ACalls E 23 [slFm l, encTy t] [] g d (dN k) [] := hf
          have hbk := (hl2 _ (List.getElem_mem hk)).2
          refine awp_ops (by kernel_rfl) rfl (fun g3 hg3 ops3 KR3 hops3 hKR3 => ?_)
          refine aops_eval 2 hops3 ?_
          simp only [go_sem]
          refine aops_pure hops3 rfl rfl rfl (hb _ _) (CoL.refl _) ?_
          refine aops_last 6 hops3 ?_
          simp only [go_sem]
          refine hKR3 _ ?_
          refine hK6 _ ?_
          refine awp_seq_k (fun K11 hK11 => ?_)
          refine awp_ops (by kernel_rfl) rfl (fun g4 hg4 ops4 KR4 hops4 hKR4 => ?_)
          refine aops_eval 2 hops4 ?_
          simp only [go_sem]
          refine aops_pure hops4 rfl rfl rfl (hf _ _) (CoL.refl _) ?_
          refine aops_last 1 hops4 ?_
          simp only [go_sem]
          refine hKR4 _ ?_
          refine hK11 _ ?_
          refine awp_seq_k (fun K12 hK12 => ?_)
          refine awp_seq_k (fun K13 hK13 => ?_)
          have hn : ¬ (k : Int) < 0 := by omega
          refine awp_plain 2 (by kernel_rfl) rfl (fun g5 hg5 => ?_)
          simp only [go_sem, hn, decide_false]
          refine hK13 _ ?_
          refine awp_f rfl ?_
          refine awp_skip ?_
          refine hK12 _ ?_
          refine awp_seq_k (fun K14 hK14 => ?_)
          refine awp_any 10 (by kernel_rfl) (by kernel_rfl) rfl (fun g7 hg7 ops7 KR7 hops7 hKR7 => ?_)
          refine qrun_eval 8 hops7 ?_
          simp only [go_sem, getM hk]
          refine qrun_pure hops7 rfl rfl rfl (ref04Equal_calls _ hbk l[k].bound _ _) (CoL.refl _) rfl ?_
          refine qrun_last 1 hops7 ?_
          simp only [go_sem, he]
          refine aops_last 1 hops7 ?_
          simp only [go_sem]
          refine hKR7 _ ?_
          refine hK14 _ ?_
          refine awp_ret ?_
          refine ends_ev rfl ?_
          simp only [go_sem]
          exact Co.refl _
      · obtain ⟨hb, hf, _⟩ := none (by simp [boundOf, h0]) (by simp [h0])
        refine awp_ops (by kernel_rfl) rfl (fun g3 hg3 ops3 KR3 hops3 hKR3 => ?_)
        refine aops_eval 2 hops3 ?_
        simp only [go_sem]
        refine aops_pure hops3 rfl rfl rfl (hb _ _) (CoL.refl _) ?_
        refine aops_last 6 hops3 ?_
        simp only [go_sem]
        refine hKR3 _ ?_
        refine hK6 _ ?_
        refine awp_seq_k (fun K15 hK15 => ?_)
        refine awp_ops (by kernel_rfl) rfl (fun g4 hg4 ops4 KR4 hops4 hKR4 => ?_)
        refine aops_eval 2 hops4 ?_
        simp only [go_sem]
        refine aops_pure hops4 rfl rfl rfl (hf _ _) (CoL.refl _) ?_
        refine aops_last 1 hops4 ?_
        simp only [go_sem]
        refine hKR4 _ ?_
        refine hK15 _ ?_
        refine awp_seq_k (fun K16 hK16 => ?_)
        refine awp_seq_k (fun K17 hK17 => ?_)
        refine awp_plain 2 (by kernel_rfl) rfl (fun g5 hg5 => ?_)
        simp only [go_sem, show (-1 : Int) < 0 from by decide, decide_true]
        refine hK17 _ ?_
        refine awp_t rfl ?_
        refine awp_seq_k (fun K18 hK18 => ?_)
        refine awp_ops (by kernel_rfl) rfl (fun g6 hg6 ops6 KR6 hops6 hKR6 => ?_)
        refine aops_eval 5 hops6 ?_
        simp only [go_sem, Bool.not_false]
        refine aops_pure hops6 rfl rfl rfl (hz _ _) (.cons (.refl _) (.cons coZeroTy .nil)) ?_
        refine aops_last 2 hops6 ?_
        simp only [go_sem, he]
        refine hKR6 _ ?_
        refine hK18 _ ?_
        refine awp_ret ?_
        refine ends_ev rfl ?_
        simp only [go_sem]
        exact Co.refl _

theorem bindEquiv_calls (a b c : Sig) (ha : okSi a) (hb : okSi b) (hc : okSi c) (g d : Nat) : ACalls E 7 [encSi a, encSi b, encSi c] [] g d (dB true) [] := by
  refine acalls_of_awp (fn := Tryd.f7) (N := 59) Tryd.call7 Tryd.func7 rfl rfl (by simp) ?_
  simp only [go_sem]
  refine awp_seq_k (fun K1 hK1 => ?_)
  refine awp_plain 4 (by kernel_rfl) rfl (fun g0 hg0 => ?_)
  simp only [go_sem]
  refine hK1 _ ?_
  refine awp_seq_k (fun K2 hK2 => ?_)
  refine awp_seq_k (fun K3 hK3 => ?_)
  refine awp_ops (by kernel_rfl) rfl (fun g1 hg1 ops1 KR1 hops1 hKR1 => ?_)
  refine aops_eval 0 hops1 ?_
  simp only [go_sem]
  refine aops_pure hops1 rfl rfl rfl (awake_calls _ _) (CoL.refl _) ?_
  refine aops_eval 3 hops1 ?_
  simp only [go_sem]
  cases hfa : few10 a with
  | false =>
    refine aops_pure hops1 rfl rfl rfl (few10_calls a ha _ _) (CoL.refl _) ?_
    refine aops_last 12 hops1 ?_
    simp only [go_sem, hfa]
    refine hKR1 _ ?_
    refine hK3 _ ?_
    refine awp_t rfl ?_
    refine awp_seq_k (fun K4 hK4 => ?_)
    refine awp_ops (by kernel_rfl) rfl (fun g2 hg2 ops2 KR2 hops2 hKR2 => ?_)
    refine aops_eval 0 hops2 ?_
    simp only [go_sem]
    refine aops_pure hops2 rfl rfl rfl (awake_calls _ _) (CoL.refl _) ?_
    refine aops_last 1 hops2 ?_
    simp only [go_sem]
    refine hKR2 _ ?_
    refine hK4 _ ?_
    refine awp_ret ?_
    refine ends_ev rfl ?_
    simp only [go_sem]
    exact Co.refl _
  | true =>
    refine aops_pure hops1 rfl rfl rfl (few10_calls a ha _ _) (CoL.refl _) ?_
    refine aops_eval 4 hops1 ?_
    simp only [go_sem, hfa]
    cases hfb : few10 b with
    | false =>
      refine aops_pure hops1 rfl rfl rfl (few10_calls b hb _ _) (CoL.refl _) ?_
      refine aops_last 7 hops1 ?_
      simp only [go_sem, hfb]
      refine hKR1 _ ?_
      refine hK3 _ ?_
      refine awp_t rfl ?_
      refine awp_seq_k (fun K5 hK5 => ?_)
      refine awp_ops (by kernel_rfl) rfl (fun g2 hg2 ops2 KR2 hops2 hKR2 => ?_)
      refine aops_eval 0 hops2 ?_
      simp only [go_sem]
      refine aops_pure hops2 rfl rfl rfl (awake_calls _ _) (CoL.refl _) ?_
      refine aops_last 1 hops2 ?_
      simp only [go_sem]
      refine hKR2 _ ?_
      refine hK5 _ ?_
      refine awp_ret ?_
      refine ends_ev rfl ?_
      simp only [go_sem]
      exact Co.refl _
    | true =>
      refine aops_pure hops1 rfl rfl rfl (few10_calls b hb _ _) (CoL.refl _) ?_
      refine aops_eval 4 hops1 ?_
      simp only [go_sem, hfb]
      cases hfc : few10 c with
      | false =>
        refine aops_pure hops1 rfl rfl rfl (few10_calls c hc _ _) (CoL.refl _) ?_
        refine aops_last 2 hops1 ?_
        simp only [go_sem, hfc]
        refine hKR1 _ ?_
        refine hK3 _ ?_
        refine awp_t rfl ?_
        refine awp_seq_k (fun K6 hK6 => ?_)
        refine awp_ops (by kernel_rfl) rfl (fun g2 hg2 ops2 KR2 hops2 hKR2 => ?_)
        refine aops_eval 0 hops2 ?_
        simp only [go_sem]
        refine aops_pure hops2 rfl rfl rfl (awake_calls _ _) (CoL.refl _) ?_
        refine aops_last 1 hops2 ?_
        simp only [go_sem]
        refine hKR2 _ ?_
        refine hK6 _ ?_
        refine awp_ret ?_
        refine ends_ev rfl ?_
        simp only [go_sem]
        exact Co.refl _
      | true =>
        refine aops_pure hops1 rfl rfl rfl (few10_calls c hc _ _) (CoL.refl _) ?_
        refine aops_last 2 hops1 ?_
        simp only [go_sem, hfc]
        refine hKR1 _ ?_
        refine hK3 _ ?_
        refine awp_f rfl ?_
        refine awp_skip ?_
        refine hK2 _ ?_
        refine awp_seq_k (fun K7 hK7 => ?_)
        have ma := (few10_sm hfa).1
        have mb := (few10_sm hfb).1
        have mc := (few10_sm hfc).1
        have haa : alike a a = true := (alike_iff _ _).2 rfl
        have hba : alike b a = alike a b := by rw [Bool.eq_iff_iff, alike_iff, alike_iff]; exact eq_comm
        refine awp_ops (by kernel_rfl) rfl (fun g3 hg3 ops3 KR3 hops3 hKR3 => ?_)
        refine aops_eval 2 hops3 ?_
        simp only [go_sem]
        refine aops_pure hops3 rfl rfl rfl (alike_calls a b ma mb _ _) (CoL.refl _) ?_
        refine aops_last 1 hops3 ?_
        simp only [go_sem]
        refine hKR3 _ ?_
        refine hK7 _ ?_
        refine awp_seq_k (fun K8 hK8 => ?_)
        refine awp_any 30 (by kernel_rfl) (by kernel_rfl) rfl (fun g4 hg4 ops4 KR4 hops4 hKR4 => ?_)
        refine qrun_eval 2 hops4 ?_
        simp only [go_sem]
        refine qrun_pure hops4 rfl rfl rfl (alike_calls a a ma ma _ _) (CoL.refl _) rfl ?_
        refine qrun_eval 3 hops4 ?_
        simp only [go_sem, haa]
        cases hab : alike a b with
        | false =>
          refine qrun_pure hops4 rfl rfl rfl (alike_calls b a mb ma _ _) (CoL.refl _) rfl ?_
          refine qrun_eval 20 hops4 ?_
          simp only [go_sem, hba, hab, decide_true, Bool.not_false]
          refine qrun_pure hops4 rfl rfl rfl (refAlike_calls a b ma mb _ _) (CoL.refl _) rfl ?_
          refine qrun_last 2 hops4 ?_
          simp only [go_sem, hab, decide_true]
          refine aops_last 1 hops4 ?_
          simp only [go_sem]
          refine hKR4 _ ?_
          refine hK8 _ ?_
          refine awp_ret ?_
          refine ends_ev rfl ?_
          simp only [go_sem]
          exact Co.refl _
        | true =>
          have hbc : alike b c = alike a c := by
            have := (alike_iff _ _).1 hab
            rw [Bool.eq_iff_iff, alike_iff, alike_iff, this]
          refine qrun_pure hops4 rfl rfl rfl (alike_calls b a mb ma _ _) (CoL.refl _) rfl ?_
          refine qrun_eval 9 hops4 ?_
          simp only [go_sem, hba, hab, decide_true, Bool.not_true]
          refine qrun_pure hops4 rfl rfl rfl (alike_calls a c ma mc _ _) (CoL.refl _) rfl ?_
          refine qrun_eval 2 hops4 ?_
          simp only [go_sem]
          refine qrun_pure hops4 rfl rfl rfl (alike_calls b c mb mc _ _) (CoL.refl _) rfl ?_
          refine qrun_eval 7 hops4 ?_
          simp only [go_sem, hbc, decide_true]
          refine qrun_pure hops4 rfl rfl rfl (refAlike_calls a b ma mb _ _) (CoL.refl _) rfl ?_
          refine qrun_last 2 hops4 ?_
          simp only [go_sem, hab, decide_true]
          refine aops_last 1 hops4 ?_
          simp only [go_sem]
          refine hKR4 _ ?_
          refine hK8 _ ?_
          refine awp_ret ?_
          refine ends_ev rfl ?_
          simp only [go_sem]
          exact Co.refl _
end Go.Proofs.T

