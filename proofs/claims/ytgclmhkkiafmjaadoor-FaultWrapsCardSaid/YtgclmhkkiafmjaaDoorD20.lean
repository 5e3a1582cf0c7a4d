/- A part of the proof, under no conditions of its own: D20. -/
import Derived.Test.YtgclmhkkiafmjaaDoorD19
namespace Go.Proofs.T
open Go Go.Ab Go.RowKit Go.Extern.Stop Go.Stop Go.Extern

/-! ## Errors that are moved -/

set_option maxRecDepth 100000 in
theorem shifts_calls (e : Err) (n : Int) (h : okEr e) (hn1 : -2147483648 ≤ n) (hn2 : n ≤ 2147483647) (g d : Nat) : ACalls E 4 [encEr e, .val (.int .i32 n)] [] g d (dB true) [] := by
  refine acalls_of_awp (fn := Tryd.f4) (N := 65) Tryd.call4 Tryd.func4 rfl rfl (by simp) ?_
  simp only [go_sem]
  refine awp_seq_k (fun K1 hK1 => ?_)
  refine awp_plain 2 (by kernel_rfl) rfl (fun g0 hg0 => ?_)
  simp only [go_sem, encEr, erC, List.all_cons, List.all_nil]
  refine hK1 _ ?_
  refine awp_seq_k (fun K2 hK2 => ?_)
  refine awp_seq_k (fun K3 hK3 => ?_)
  refine awp_ops (by kernel_rfl) rfl (fun g1 hg1 ops1 KR1 hops1 hKR1 => ?_)
  refine aops_eval 0 hops1 ?_
  simp only [go_sem]
  cases hf : fewEr e with
  | false =>
    refine aops_pure hops1 rfl rfl rfl (awake2_calls _ _) (CoL.refl _) ?_
    refine aops_eval 3 hops1 ?_
    simp only [go_sem]
    refine aops_pure hops1 rfl rfl rfl (fewEr_calls e h _ _) (CoL.refl _) ?_
    refine aops_last 2 hops1 ?_
    simp only [go_sem, hf]
    refine hKR1 _ ?_
    refine hK3 _ ?_
    refine awp_t rfl ?_
    refine awp_seq_k (fun K4 hK4 => ?_)
    refine awp_ops (by kernel_rfl) rfl (fun g2 hg2 ops2 KR2 hops2 hKR2 => ?_)
    refine aops_eval 0 hops2 ?_
    simp only [go_sem]
    refine aops_pure hops2 rfl rfl rfl (awake2_calls _ _) (CoL.refl _) ?_
    refine aops_last 1 hops2 ?_
    simp only [go_sem]
    refine hKR2 _ ?_
    refine hK4 _ ?_
    refine awp_ret ?_
    refine ends_ev rfl ?_
    simp only [go_sem]
    exact Co.refl _
  | true =>
    obtain ⟨f1, f2, f3, f4⟩ := fewEr_spec hf
    have hw : IntKind.i64.wrap n = n := wrapN n (by omega) (by omega)
    have ha1 : -9223372036854775808 ≤ atOf e + n := by
      unfold atOf
      split
      · omega
      · split <;> omega
    have ha2 : atOf e + n ≤ 9223372036854775807 := by
      unfold atOf
      split
      · omega
      · split <;> omega
    refine aops_pure hops1 rfl rfl rfl (awake2_calls _ _) (CoL.refl _) ?_
    refine aops_eval 3 hops1 ?_
    simp only [go_sem]
    refine aops_pure hops1 rfl rfl rfl (fewEr_calls e h _ _) (CoL.refl _) ?_
    refine aops_last 2 hops1 ?_
    simp only [go_sem, hf]
    refine hKR1 _ ?_
    refine hK3 _ ?_
    refine awp_f rfl ?_
    refine awp_skip ?_
    refine hK2 _ ?_
    refine awp_seq_k (fun K5 hK5 => ?_)
    refine awp_ops (by kernel_rfl) rfl (fun g3 hg3 ops3 KR3 hops3 hKR3 => ?_)
    refine aops_eval 1 hops3 ?_
    simp only [go_sem]
    refine aops_pure hops3 rfl rfl rfl (build_calls e h hf _ _) (CoL.refl _) ?_
    refine aops_eval 2 hops3 ?_
    simp only [go_sem, hw]
    try simp (disch := omega) only [wrapN, wrapB, Int.tdiv_eq_ediv_of_nonneg, Int.tmod_eq_emod_of_nonneg]
    refine aops_pure hops3 rfl rfl rfl (shift_calls e n ha1 ha2 _ _) (CoL.refl _) ?_
    refine aops_last 1 hops3 ?_
    simp only [go_sem]
    refine hKR3 _ ?_
    refine hK5 _ ?_
    refine awp_seq_k (fun K6 hK6 => ?_)
    refine awp_seq_k (fun K7 hK7 => ?_)
    cases hn : e.nil with
    | true =>
      refine awp_plain 2 (by kernel_rfl) rfl (fun g4 hg4 => ?_)
      simp only [go_sem, hn, errD, shiftE, if_true]
      refine hK7 _ ?_
      refine awp_t rfl ?_
      refine awp_seq_k (fun K8 hK8 => ?_)
      refine awp_plain 3 (by kernel_rfl) rfl (fun g5 hg5 => ?_)
      simp only [go_sem, if_true]
      refine hK8 _ ?_
      refine awp_ret ?_
      refine ends_ev rfl ?_
      simp only [go_sem, if_true]
      exact Co.refl _
    | false =>
      refine awp_plain 2 (by kernel_rfl) rfl (fun g4 hg4 => ?_)
      simp only [go_sem, if_false]
      refine hK7 _ ?_
      refine awp_f rfl ?_
      refine awp_skip ?_
      refine hK6 _ ?_
      refine awp_seq_k (fun K9 hK9 => ?_)
      refine awp_ops (by kernel_rfl) rfl (fun g6 hg6 ops6 KR6 hops6 hKR6 => ?_)
      refine aops_eval 1 hops6 ?_
      simp only [go_sem, if_false]
      refine aops_pure hops6 rfl rfl rfl (code_calls (shiftE e n) _ _) (CoL.refl _) ?_
      refine aops_last 5 hops6 ?_
      simp only [go_sem, if_false]
      refine hKR6 _ ?_
      refine hK9 _ ?_
      refine awp_seq_k (fun K10 hK10 => ?_)
      refine awp_ops (by kernel_rfl) rfl (fun g7 hg7 ops7 KR7 hops7 hKR7 => ?_)
      refine aops_eval 1 hops7 ?_
      simp only [go_sem, if_false]
      refine aops_pure hops7 rfl rfl rfl (at_calls (shiftE e n) _ _) (CoL.refl _) ?_
      refine aops_last 5 hops7 ?_
      simp only [go_sem, if_false]
      refine hKR7 _ ?_
      refine hK10 _ ?_
      refine awp_seq_k (fun K11 hK11 => ?_)
      refine awp_plain 3 (by kernel_rfl) rfl (fun g8 hg8 => ?_)
      simp only [go_sem, hw, if_false]
      try simp (disch := omega) only [wrapN, wrapB, Int.tdiv_eq_ediv_of_nonneg, Int.tmod_eq_emod_of_nonneg]
      refine hK11 _ ?_
      refine awp_seq_k (fun K12 hK12 => ?_)
      refine awp_seq_k (fun K13 hK13 => ?_)
      cases hft : e.fault with
      | true =>
        have hc : n + e.at' = e.at' + n := Int.add_comm _ _
        refine awp_plain 2 (by kernel_rfl) rfl (fun g9 hg9 => ?_)
        simp only [go_sem, hn, Bool.false_eq_true, if_false, hft, errD, shiftE, codeOf, atOf, if_true, Bool.not_false, Bool.true_and, chain, baseE, List.reverse_nil]
        refine hK13 _ ?_
        refine awp_t rfl ?_
        refine awp_plain 5 (by kernel_rfl) rfl (fun g10 hg10 => ?_)
        simp only [go_sem, hc, if_false, if_true]
        try simp (disch := omega) only [wrapN]
        refine hK12 _ ?_
        refine awp_seq_k (fun K14 hK14 => ?_)
        refine awp_plain 20 (by kernel_rfl) rfl (fun g11 hg11 => ?_)
        simp only [go_sem, if_false, if_true, Bool.not_false, decide_true]
        refine hK14 _ ?_
        refine awp_ret ?_
        refine ends_ev rfl ?_
        simp only [go_sem, if_false, if_true]
        exact Co.refl _
      | false =>
        have hc : 0 + n = n := Int.zero_add _
        refine awp_plain 2 (by kernel_rfl) rfl (fun g9 hg9 => ?_)
        simp only [go_sem, hn, Bool.false_eq_true, if_false, hft, errD, shiftE, codeOf, atOf, if_true, Bool.not_false, Bool.true_and, chain, baseE, List.reverse_nil]
        refine hK13 _ ?_
        refine awp_f rfl ?_
        refine awp_skip ?_
        refine hK12 _ ?_
        refine awp_seq_k (fun K15 hK15 => ?_)
        refine awp_plain 20 (by kernel_rfl) rfl (fun g11 hg11 => ?_)
        simp only [go_sem, hc, if_false, if_true, Bool.not_false, decide_true]
        refine hK15 _ ?_
        refine awp_ret ?_
        refine ends_ev rfl ?_
        simp only [go_sem, if_false, if_true]
        exact Co.refl _

/-! ## Names -/

theorem sX : True := trivial
set_option maxRecDepth 100000 in
theorem names_calls (c : Int) (e : Err) (h : okEr e) (g d : Nat) : ACalls E 5 [dI c, encEr e] [] g d (dB true) [] := by
  refine acalls_of_awp (fn := Tryd.f5) (N := 31) Tryd.call5 Tryd.func5 rfl rfl (by simp) ?_
  simp only [go_sem]
  refine awp_seq_k (fun K1 hK1 => ?_)
  refine awp_plain 2 (by kernel_rfl) rfl (fun g0 hg0 => ?_)
  simp only [go_sem, encEr, erC, List.all_cons, List.all_nil]
  refine hK1 _ ?_
  refine awp_seq_k (fun K2 hK2 => ?_)
  refine awp_seq_k (fun K3 hK3 => ?_)
  refine awp_ops (by kernel_rfl) rfl (fun g1 hg1 ops1 KR1 hops1 hKR1 => ?_)
  refine aops_eval 0 hops1 ?_
  simp only [go_sem]
  cases hf : fewEr e with
  | false =>
    refine aops_pure hops1 rfl rfl rfl (awake2_calls _ _) (CoL.refl _) ?_
    refine aops_eval 3 hops1 ?_
    simp only [go_sem]
    refine aops_pure hops1 rfl rfl rfl (fewEr_calls e h _ _) (CoL.refl _) ?_
    refine aops_last 2 hops1 ?_
    simp only [go_sem, hf]
    refine hKR1 _ ?_
    refine hK3 _ ?_
    refine awp_t rfl ?_
    refine awp_seq_k (fun K4 hK4 => ?_)
    refine awp_ops (by kernel_rfl) rfl (fun g2 hg2 ops2 KR2 hops2 hKR2 => ?_)
    refine aops_eval 0 hops2 ?_
    simp only [go_sem]
    refine aops_pure hops2 rfl rfl rfl (awake2_calls _ _) (CoL.refl _) ?_
    refine aops_last 1 hops2 ?_
    simp only [go_sem]
    refine hKR2 _ ?_
    refine hK4 _ ?_
    refine awp_ret ?_
    refine ends_ev rfl ?_
    simp only [go_sem]
    exact Co.refl _
  | true =>
    refine aops_pure hops1 rfl rfl rfl (awake2_calls _ _) (CoL.refl _) ?_
    refine aops_eval 3 hops1 ?_
    simp only [go_sem]
    refine aops_pure hops1 rfl rfl rfl (fewEr_calls e h _ _) (CoL.refl _) ?_
    refine aops_last 2 hops1 ?_
    simp only [go_sem, hf]
    refine hKR1 _ ?_
    refine hK3 _ ?_
    refine awp_f rfl ?_
    refine awp_skip ?_
    refine hK2 _ ?_
    refine awp_seq_k (fun K5 hK5 => ?_)
    refine awp_any 18 (by kernel_rfl) (by kernel_rfl) rfl (fun g3 hg3 ops3 KR3 hops3 hKR3 => ?_)
    refine qrun_eval 1 hops3 ?_
    simp only [go_sem]
    refine qrun_pure hops3 rfl rfl rfl (name_calls c _ _) (CoL.refl _) rfl ?_
    refine qrun_eval 1 hops3 ?_
    simp only [go_sem]
    refine qrun_pure hops3 rfl rfl rfl (refName_calls c _ _) (CoL.refl _) rfl ?_
    refine qrun_eval 3 hops3 ?_
    simp only [go_sem, decide_true]
    refine qrun_pure hops3 rfl rfl rfl (build_calls e h hf _ _) (CoL.refl _) rfl ?_
    refine qrun_pure hops3 rfl rfl rfl (text_calls e h _ _) (CoL.refl _) rfl ?_
    refine qrun_eval 1 hops3 ?_
    simp only [go_sem]
    refine qrun_pure hops3 rfl rfl rfl (told_calls e h _ _) (CoL.refl _) rfl ?_
    refine qrun_eval 3 hops3 ?_
    simp only [go_sem, decide_true]
    refine qrun_pure hops3 rfl rfl rfl (new_calls _ _ _) (CoL.refl _) rfl ?_
    refine qrun_pure hops3 rfl rfl rfl (textO_calls _ _ _) (CoL.refl _) rfl ?_
    refine qrun_last 2 hops3 ?_
    simp only [go_sem, sError, decide_true]
    refine aops_last 1 hops3 ?_
    simp only [go_sem]
    refine hKR3 _ ?_
    refine hK5 _ ?_
    refine awp_ret ?_
    refine ends_ev rfl ?_
    simp only [go_sem]
    exact Co.refl _
end Go.Proofs.T

