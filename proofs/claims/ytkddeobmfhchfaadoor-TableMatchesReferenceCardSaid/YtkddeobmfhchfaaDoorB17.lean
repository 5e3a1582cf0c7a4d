/- A part of the proof, under no conditions of its own: B17. -/
import Derived.Test.YtkddeobmfhchfaaDoorB16
namespace Go.Proofs.T
open Go Go.Ab Go.RowKit


theorem mthIdx_some {p : Prg} {x : Ty} {m : Str} {i : Nat} (h : mthIdx p x m = some i) : ∃ hi : i < p.decls.length, mthDe p x m = some p.decls[i] := by
  have h0 := h
  unfold mthIdx at h
  split at h
  · obtain ⟨hq, -⟩ := Option.filter_eq_some_iff.1 h
    obtain ⟨hi, -⟩ := meFind_some hq
    exact ⟨hi, by simp [mthDe, h0, hi]⟩
  · cases h
theorem tableMethods_calls (p : Prg) (x : Ty) (m : Str) (hp : okPr p) (hx : okTy x) (hm0 : m.size ≤ 9223372036854775807) (g d : Nat) : ACalls E 6 [encPr p, encTy x, encS m] [] g d (dB true) [] := by
  refine acalls_of_awp (fn := Tryd.f6) (N := 69) Tryd.call6 Tryd.func6 rfl rfl (by simp) ?_
  simp only [go_sem]
  refine awp_seq_k (fun K1 hK1 => ?_)
  refine awp_plain 3 (by kernel_rfl) rfl (fun g0 hg0 => ?_)
  simp only [go_sem]
  refine hK1 _ ?_
  refine awp_seq_k (fun K2 hK2 => ?_)
  refine awp_seq_k (fun K3 hK3 => ?_)
  refine awp_ops (by kernel_rfl) rfl (fun g1 hg1 ops1 KR1 hops1 hKR1 => ?_)
  refine aops_eval 0 hops1 ?_
  simp only [go_sem]
  refine aops_pure hops1 rfl rfl rfl (awake_calls _ _) (CoL.refl _) ?_
  refine aops_eval 3 hops1 ?_
  simp only [go_sem]
  cases hfa : decide (cntPr p ≤ 600) with
  | false =>
    refine aops_pure hops1 rfl rfl rfl (few06_calls p hp _ _) (CoL.refl _) ?_
    refine aops_last 12 hops1 ?_
    simp only [go_sem, hfa]
    refine hKR1 _ ?_
    refine hK3 _ ?_
    refine awp_t rfl ?_
    refine awp_seq_k (fun K4 hK4 => ?_)
    refine awp_ops (by kernel_rfl) rfl (fun g2 hg2 ops2 KR2 hops2 hKR2 => ?_)
    refine aops_eval 0 hops2 ?_
    simp only [go_sem]
    refine aops_pure hops2 rfl rfl rfl (awake_calls _ _) (CoL.refl _) ?_
    refine aops_last 1 hops2 ?_
    simp only [go_sem]
    refine hKR2 _ ?_
    refine hK4 _ ?_
    refine awp_ret ?_
    refine ends_ev rfl ?_
    simp only [go_sem]
    exact Co.refl _
  | true =>
    refine aops_pure hops1 rfl rfl rfl (few06_calls p hp _ _) (CoL.refl _) ?_
    refine aops_eval 4 hops1 ?_
    simp only [go_sem, hfa]
    cases hfb : decide (count x 0 ≤ 200) with
    | false =>
      refine aops_pure hops1 rfl rfl rfl (few04_calls x hx _ _) (CoL.refl _) ?_
      refine aops_last 7 hops1 ?_
      simp only [go_sem, hfb]
      refine hKR1 _ ?_
      refine hK3 _ ?_
      refine awp_t rfl ?_
      refine awp_seq_k (fun K5 hK5 => ?_)
      refine awp_ops (by kernel_rfl) rfl (fun g2 hg2 ops2 KR2 hops2 hKR2 => ?_)
      refine aops_eval 0 hops2 ?_
      simp only [go_sem]
      refine aops_pure hops2 rfl rfl rfl (awake_calls _ _) (CoL.refl _) ?_
      refine aops_last 1 hops2 ?_
      simp only [go_sem]
      refine hKR2 _ ?_
      refine hK5 _ ?_
      refine awp_ret ?_
      refine ends_ev rfl ?_
      simp only [go_sem]
      exact Co.refl _
    | true =>
      by_cases hm : 300 < (m.size : Int)
      · refine aops_pure hops1 rfl rfl rfl (few04_calls x hx _ _) (CoL.refl _) ?_
        refine aops_last 7 hops1 ?_
        simp only [go_sem, hfb, hm, decide_true]
        refine hKR1 _ ?_
        refine hK3 _ ?_
        refine awp_t rfl ?_
        refine awp_seq_k (fun K6 hK6 => ?_)
        refine awp_ops (by kernel_rfl) rfl (fun g2 hg2 ops2 KR2 hops2 hKR2 => ?_)
        refine aops_eval 0 hops2 ?_
        simp only [go_sem]
        refine aops_pure hops2 rfl rfl rfl (awake_calls _ _) (CoL.refl _) ?_
        refine aops_last 1 hops2 ?_
        simp only [go_sem]
        refine hKR2 _ ?_
        refine hK6 _ ?_
        refine awp_ret ?_
        refine ends_ev rfl ?_
        simp only [go_sem]
        exact Co.refl _
      · refine aops_pure hops1 rfl rfl rfl (few04_calls x hx _ _) (CoL.refl _) ?_
        refine aops_last 7 hops1 ?_
        simp only [go_sem, hfb, hm, decide_false]
        refine hKR1 _ ?_
        refine hK3 _ ?_
        refine awp_f rfl ?_
        refine awp_skip ?_
        refine hK2 _ ?_
        refine awp_seq_k (fun K7 hK7 => ?_)
        have mp := (cntPr_sm p (of_decide_eq_true hfa)).1
        have mx := count_sm x 0 (by have := of_decide_eq_true hfb; omega)
        have mu := ((smTy_iff x).1 mx).2.2
        have hl := mp.1.1
        have c3 := smMths mp mu
        have hms : m.size ≤ 1000000 := by omega
        refine awp_ops (by kernel_rfl) rfl (fun g3 hg3 ops3 KR3 hops3 hKR3 => ?_)
        refine aops_eval 1 hops3 ?_
        simp only [go_sem]
        refine aops_pure hops3 rfl rfl rfl (tableNew_calls p mp _ _) (CoL.refl _) ?_
        refine aops_last 1 hops3 ?_
        simp only [go_sem]
        refine hKR3 _ ?_
        refine hK7 _ ?_
        refine awp_seq_k (fun K8 hK8 => ?_)
        refine awp_ops (by kernel_rfl) rfl (fun g4 hg4 ops4 KR4 hops4 hKR4 => ?_)
        refine aops_eval 3 hops4 ?_
        simp only [go_sem]
        refine aops_pure hops4 rfl rfl rfl (tbMethod_calls p mp x mx m hms _ _) (CoL.refl _) ?_
        refine aops_last 6 hops4 ?_
        simp only [go_sem]
        refine hKR4 _ ?_
        refine hK8 _ ?_
        refine awp_seq_k (fun K9 hK9 => ?_)
        refine awp_ops (by kernel_rfl) rfl (fun g5 hg5 ops5 KR5 hops5 hKR5 => ?_)
        refine aops_eval 3 hops5 ?_
        simp only [go_sem]
        refine aops_pure hops5 rfl rfl rfl (refMethod_calls p x m hl _ _) (CoL.refl _) ?_
        refine aops_last 1 hops5 ?_
        simp only [go_sem]
        refine hKR5 _ ?_
        refine hK9 _ ?_
        refine awp_seq_k (fun K10 hK10 => ?_)
        refine awp_plain 3 (by kernel_rfl) rfl (fun g6 hg6 => ?_)
        simp only [go_sem]
        refine hK10 _ ?_
        refine awp_seq_k (fun K11 hK11 => ?_)
        refine awp_seq_k (fun K12 hK12 => ?_)
        cases hmi : mthIdx p x m with
        | none =>
          have he : mthDe p x m = none := by simp [mthDe, hmi]
          have hz : ¬ (0 : Int) ≤ -1 := by decide
          refine awp_plain 2 (by kernel_rfl) rfl (fun g7 hg7 => ?_)
          simp only [go_sem, optI, hz, decide_false, List.nil_append]
          refine hK12 _ ?_
          refine awp_f rfl ?_
          refine awp_skip ?_
          refine hK11 _ ?_
          refine awp_seq_k (fun K13 hK13 => ?_)
          refine awp_any 18 (by kernel_rfl) (by kernel_rfl) rfl (fun g9 hg9 ops9 KR9 hops9 hKR9 => ?_)
          refine qrun_eval 7 hops9 ?_
          simp only [go_sem, he, hz, decide_false, decide_true, List.nil_append]
          refine qrun_pure hops9 rfl rfl rfl (decl06 true zeroDe smDe_zero.ok _ _) (.cons (.refl _) (.cons coZeroDe (.cons (.refl _) .nil))) rfl ?_
          refine qrun_eval 4 hops9 ?_
          simp only [go_sem, List.nil_append]
          refine qrun_pure hops9 rfl rfl rfl (tbMethods_calls p mp x mx _ _) (CoL.refl _) rfl ?_
          refine qrun_eval 2 hops9 ?_
          simp only [go_sem, List.nil_append]
          refine qrun_pure hops9 rfl rfl rfl (refMethods_calls p mp x mx _ _) (CoL.refl _) rfl ?_
          refine qrun_pure hops9 rfl rfl rfl (sigs_calls _ (by have := c3.1; omega) (fun s hs => (c3.2 s hs).ok) _ _) (CoL.refl _) rfl ?_
          refine qrun_last 1 hops9 ?_
          simp only [go_sem, List.nil_append]
          refine aops_last 1 hops9 ?_
          simp only [go_sem, List.nil_append]
          refine hKR9 _ ?_
          refine hK13 _ ?_
          refine awp_ret ?_
          refine ends_ev rfl ?_
          simp only [go_sem]
          exact Co.refl _
        | some i =>
          obtain ⟨hil, he⟩ := mthIdx_some hmi
          have hz : (0 : Int) ≤ i := by omega
          have hgm := getM (f := encDe) hil
          refine awp_plain 2 (by kernel_rfl) rfl (fun g7 hg7 => ?_)
          simp only [go_sem, optI, hz, decide_true, List.nil_append]
          refine hK12 _ ?_
          refine awp_t rfl ?_
          refine awp_plain 6 (by kernel_rfl) rfl (fun g8 hg8 => ?_)
          simp only [go_sem, hgm, encDe, deC, siC, exC, List.cons_append, List.nil_append]
          refine hK11 _ ?_
          refine awp_seq_k (fun K14 hK14 => ?_)
          refine awp_any 18 (by kernel_rfl) (by kernel_rfl) rfl (fun g9 hg9 ops9 KR9 hops9 hKR9 => ?_)
          refine qrun_eval 7 hops9 ?_
          simp only [go_sem, he, hz, decide_true, List.nil_append]
          refine qrun_pure hops9 rfl rfl rfl (decl06 true p.decls[i] (mp.1.2 _ (List.getElem_mem hil)).ok _ _) (CoL.refl _) rfl ?_
          refine qrun_eval 4 hops9 ?_
          simp only [go_sem, List.nil_append]
          refine qrun_pure hops9 rfl rfl rfl (tbMethods_calls p mp x mx _ _) (CoL.refl _) rfl ?_
          refine qrun_eval 2 hops9 ?_
          simp only [go_sem, List.nil_append]
          refine qrun_pure hops9 rfl rfl rfl (refMethods_calls p mp x mx _ _) (CoL.refl _) rfl ?_
          refine qrun_pure hops9 rfl rfl rfl (sigs_calls _ (by have := c3.1; omega) (fun s hs => (c3.2 s hs).ok) _ _) (CoL.refl _) rfl ?_
          refine qrun_last 1 hops9 ?_
          simp only [go_sem, List.nil_append]
          refine aops_last 1 hops9 ?_
          simp only [go_sem, List.nil_append]
          refine hKR9 _ ?_
          refine hK14 _ ?_
          refine awp_ret ?_
          refine ends_ev rfl ?_
          simp only [go_sem]
          exact Co.refl _
end Go.Proofs.T

